/- What the form of the claims asks of the whole program: its words, its functions; no condition. -/
import Derived.Test.YtnihikajdbcoaaaGreatProg
import Derived.Test.YtnihikajdbcoaaaGreatVaiD
import Derived.KernelRfl
namespace Go.Proofs.YtnihikajdbcoaaaGreat.Vai
open Go Go.ChangeShapes Go.WideShapes Go.ChangeAt Go.RowKit
set_option maxRecDepth 100000
theorem and2 {a b : Bool} (h : a = true) (h2 : b = true) : (a && b) = true := by rw [h, h2]; rfl
theorem words_word : ∀ (w r : List Char), Char.ofNat 32 ∉ w → wordsSigns (w ++ Char.ofNat 32 :: r) = w :: wordsSigns r
  | [], r, _ => rfl
  | c :: w, r, h => by
    simp only [List.mem_cons, not_or] at h
    have ih := words_word w r h.2
    have hc : c ≠ Char.ofNat 32 := fun e => h.1 e.symm
    rw [List.cons_append, wordsSigns, ih]
    exact fun e => hc e
def wH : List Char := ([104, 97, 114, 110, 101, 115, 115] : List Nat).map Char.ofNat
def wS : List Char := ([97, 57, 98, 97, 97, 51, 102, 98, 49, 54, 51, 52, 102, 51, 56, 51, 54, 57, 97, 102, 50, 56, 102, 97, 97, 53, 97, 55, 51, 55, 50, 99, 51, 50, 55, 57, 49, 98, 98, 50, 98, 53, 99, 101, 49, 98, 98, 101, 48, 56, 97, 53, 57, 50, 100, 50, 52, 48, 51, 100, 53, 52, 56, 52] : List Nat).map Char.ofNat
def wC : List Char := ([99, 117, 116] : List Nat).map Char.ofNat
def wR : List Char := ([97, 116, 32, 108, 111, 111, 112, 46, 101, 120, 97, 109, 112, 108, 101, 47, 103, 48, 49, 57, 50, 48, 47, 108, 97, 119, 115, 46, 70, 110, 69, 120, 97, 99, 116, 65, 100, 100, 79, 112, 32, 108, 111, 111, 112, 46, 101, 120, 97, 109, 112, 108, 101, 47, 103, 48, 49, 57, 50, 48, 47, 108, 97, 119, 115, 46, 70, 110, 69, 120, 97, 99, 116, 83, 116, 101, 112, 79, 112, 32, 108, 111, 111, 112, 46, 101, 120, 97, 109, 112, 108, 101, 47, 103, 48, 49, 57, 50, 48, 47, 108, 97, 119, 115, 46, 70, 110, 69, 120, 97, 99, 116, 83, 116, 101, 112, 83, 121, 115, 116, 101, 109, 32, 108, 111, 111, 112, 46, 101, 120, 97, 109, 112, 108, 101, 47, 103, 48, 49, 57, 50, 48, 47, 108, 97, 119, 115, 46, 70, 110, 69, 120, 97, 99, 116, 82, 117, 110, 83, 121, 115, 116, 101, 109, 32, 108, 111, 111, 112, 46, 101, 120, 97, 109, 112, 108, 101, 47, 103, 48, 49, 57, 50, 48, 47, 108, 97, 119, 115, 46, 70, 110, 83, 121, 115, 116, 101, 109, 83, 116, 101, 112, 32, 108, 111, 111, 112, 46, 101, 120, 97, 109, 112, 108, 101, 47, 103, 48, 49, 57, 50, 48, 47, 108, 97, 119, 115, 46, 70, 110, 65, 100, 100, 79, 112, 101, 114, 97, 116, 111, 114, 32, 108, 111, 111, 112, 46, 101, 120, 97, 109, 112, 108, 101, 47, 103, 48, 49, 57, 50, 48, 47, 108, 97, 119, 115, 46, 70, 110, 79, 112, 101, 114, 97, 116, 111, 114, 83, 116, 101, 112, 115, 32, 108, 111, 111, 112, 46, 101, 120, 97, 109, 112, 108, 101, 47, 103, 48, 49, 57, 50, 48, 47, 108, 97, 119, 115, 46, 70, 110, 83, 121, 115, 116, 101, 109, 84, 101, 114, 109, 105, 110, 97, 116, 105, 111, 110, 32, 108, 111, 111, 112, 46, 101, 120, 97, 109, 112, 108, 101, 47, 103, 48, 49, 57, 50, 48, 47, 108, 97, 119, 115, 46, 70, 110, 84, 111, 112, 32, 108, 111, 111, 112, 46, 101, 120, 97, 109, 112, 108, 101, 47, 103, 48, 49, 57, 50, 48, 47, 108, 97, 119, 115, 46, 70, 110, 67, 104, 101, 99, 107, 112, 111, 105, 110, 116, 82, 111, 117, 110, 100, 84, 114, 105, 112, 32, 108, 111, 111, 112, 46, 101, 120, 97, 109, 112, 108, 101, 47, 103, 48, 49, 57, 50, 48, 47, 108, 97, 119, 115, 46, 70, 110, 69, 120, 97, 99, 116, 82, 117, 110, 87, 105, 116, 104, 67, 104, 101, 99, 107, 112, 111, 105, 110, 116, 115, 32, 108, 111, 111, 112, 46, 101, 120, 97, 109, 112, 108, 101, 47, 103, 48, 49, 57, 50, 48, 47, 108, 97, 119, 115, 46, 70, 110, 69, 120, 97, 99, 116, 79, 117, 116, 112, 117, 116, 79, 102] : List Nat).map Char.ofNat
theorem initL : Tryz.prog.initOrder.toList = wH ++ Char.ofNat 32 :: (wS ++ Char.ofNat 32 :: (wC ++ Char.ofNat 32 :: wR)) := String.toList_ofList
theorem initW : wordsSigns Tryz.prog.initOrder.toList = wH :: wS :: wC :: wordsSigns wR := by
  rw [initL, words_word _ _ (by decide), words_word _ _ (by decide), words_word _ _ (by decide)]
theorem facLays : Tryz.prog.laysLater = false := by kernel_rfl
theorem facRefl : Tryz.prog.bearsReflect = false := by kernel_rfl
theorem facDoor : Tryz.prog.doorFits [] = true := by kernel_rfl
theorem behind (ws : List (List Char)) : behindMainWord (wH :: wS :: wC :: ws) = wC :: ws := by
  have h : ((wH == "harness".toList || wH == "ownmain".toList) && isSumSigns wS) = true := by decide +kernel
  simp only [behindMainWord, h, if_true]
theorem strips (ws : List (List Char)) : stripLifts liftWords (wC :: ws) = ([], wC :: ws) := by
  have h : ∀ l : List String, l.all (fun x => !(wC == x.toList)) = true → stripLifts l (wC :: ws) = ([], wC :: ws) := by
    intro l
    induction l with
    | nil => intro _; rfl
    | cons x l ih =>
      intro h
      simp only [List.all_cons, Bool.and_eq_true, Bool.not_eq_true'] at h
      simp only [stripLifts, h.1, Bool.false_eq_true, if_false]
      exact ih h.2
  exact h _ (by decide +kernel)
theorem enter_of {P : Program} {ws : List (List Char)} (h : wordsSigns P.initOrder.toList = wH :: wS :: wC :: ws) (hl : P.laysLater = false) (hr : P.bearsReflect = false) (hd : P.doorFits [] = true) : P.mayEnter = true := by
  unfold Program.mayEnter
  rw [h, behind]
  have h1 : (wC == "gc".toList || wC == "spec".toList) = false := by decide +kernel
  have h2 : (wC == "carried".toList) = false := by decide +kernel
  have h3 : ((wC :: ws).head? == some "cut".toList) = true := by
    show (some wC == some "cut".toList) = true
    decide +kernel
  simp only [strips, hl, hr, hd, h1, h2, h3]
  rfl
theorem lifts_of {P : Program} {ws : List (List Char)} (h : wordsSigns P.initOrder.toList = wH :: wS :: wC :: ws) : P.liftsFinal = false := by
  unfold Program.liftsFinal Program.headLifts
  rw [h, behind]
  have h2 : ((wC :: ws).head? == some "carried".toList) = false := by
    show (some wC == some "carried".toList) = false
    decide +kernel
  have h3 : ((wC :: ws).head? == some "cut".toList) = true := by
    show (some wC == some "cut".toList) = true
    decide +kernel
  simp only [strips, h2, h3, if_true]
  rfl
theorem make_of {P : Program} {ws : List (List Char)} (h : wordsSigns P.initOrder.toList = wH :: wS :: wC :: ws) : P.make = some .cut := by
  unfold Program.make
  rw [h, behind]
  have h1 : (wC == "gc".toList || wC == "spec".toList) = false := by decide +kernel
  have h2 : (wC == "cut".toList) = true := by decide +kernel
  simp only [h1, h2, Bool.true_or, if_true, Bool.false_eq_true, if_false]
theorem facEnter : Tryz.prog.mayEnter = true := enter_of initW facLays facRefl facDoor
theorem facLifts : Tryz.prog.liftsFinal = false := lifts_of initW
theorem facMake : Tryz.prog.make = some .cut := make_of initW
theorem fac_laidOut : laidOutB Tryz.prog = true := by kernel_rfl
theorem fac_maps : mapsRowed Tryz.prog = true := by kernel_rfl
theorem fac_stops : (Tryz.prog.stops == []) = true := by kernel_rfl
theorem fac_knobs : (Tryz.prog.stopKnobs == []) = true := by kernel_rfl
theorem fac_heard : Tryz.prog.stopsHeard = true := by kernel_rfl
theorem facOwn : ownKnob Tryz.prog.godebug = none := by kernel_rfl
end Go.Proofs.YtnihikajdbcoaaaGreat.Vai
