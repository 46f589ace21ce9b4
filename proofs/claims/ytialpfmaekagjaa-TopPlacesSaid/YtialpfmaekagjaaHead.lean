/- The head line of the program, in words: its signs are read once. -/
import Derived.Test.YtialpfmaekagjaaRows
import Derived.Test.YtialpfmaekagjaaChecked
import Derived.ProofKit
import Derived.JoinedOf
namespace Go.Proofs.Ytialpfmaekagjaa

def hw0 : List Char := [Char.ofNat 104, Char.ofNat 97, Char.ofNat 114, Char.ofNat 110, Char.ofNat 101, Char.ofNat 115, Char.ofNat 115]
def hw1 : List Char := [Char.ofNat 53, Char.ofNat 54, Char.ofNat 102, Char.ofNat 52, Char.ofNat 101, Char.ofNat 100, Char.ofNat 56, Char.ofNat 100, Char.ofNat 51, Char.ofNat 100, Char.ofNat 51, Char.ofNat 52, Char.ofNat 100, Char.ofNat 57, Char.ofNat 56, Char.ofNat 53, Char.ofNat 52, Char.ofNat 57, Char.ofNat 49, Char.ofNat 50, Char.ofNat 51, Char.ofNat 49, Char.ofNat 53, Char.ofNat 54, Char.ofNat 99, Char.ofNat 53, Char.ofNat 97, Char.ofNat 53, Char.ofNat 100, Char.ofNat 51, Char.ofNat 97, Char.ofNat 53, Char.ofNat 53, Char.ofNat 101, Char.ofNat 57, Char.ofNat 50, Char.ofNat 55, Char.ofNat 97, Char.ofNat 56, Char.ofNat 50, Char.ofNat 98, Char.ofNat 51, Char.ofNat 97, Char.ofNat 57, Char.ofNat 49, Char.ofNat 102, Char.ofNat 97, Char.ofNat 98, Char.ofNat 52, Char.ofNat 52, Char.ofNat 52, Char.ofNat 99, Char.ofNat 51, Char.ofNat 99, Char.ofNat 97, Char.ofNat 102, Char.ofNat 53, Char.ofNat 54, Char.ofNat 52, Char.ofNat 54, Char.ofNat 54, Char.ofNat 101, Char.ofNat 98, Char.ofNat 102]
def hw2 : List Char := [Char.ofNat 99, Char.ofNat 117, Char.ofNat 116]
def hw3 : List Char := [Char.ofNat 97, Char.ofNat 116]
def hw4 : List Char := [Char.ofNat 99, Char.ofNat 97, Char.ofNat 110, Char.ofNat 116, Char.ofNat 105, Char.ofNat 99, Char.ofNat 108, Char.ofNat 101, Char.ofNat 47, Char.ofNat 99, Char.ofNat 97, Char.ofNat 110, Char.ofNat 116, Char.ofNat 105, Char.ofNat 99, Char.ofNat 108, Char.ofNat 101, Char.ofNat 116, Char.ofNat 111, Char.ofNat 112, Char.ofNat 46, Char.ofNat 84, Char.ofNat 111, Char.ofNat 112, Char.ofNat 80, Char.ofNat 108, Char.ofNat 97, Char.ofNat 99, Char.ofNat 101, Char.ofNat 115]
def ht4 : List Char := hw4
def ht3 : List Char := hw3 ++ Char.ofNat 32 :: ht4
def ht2 : List Char := hw2 ++ Char.ofNat 32 :: ht3
def ht1 : List Char := hw1 ++ Char.ofNat 32 :: ht2
def ht0 : List Char := hw0 ++ Char.ofNat 32 :: ht1
set_option maxRecDepth 100000 in
theorem head_str : Try.prog.initOrder = String.ofList ht0 := by kernel_rfl
/-- the head's signs as a list -/
theorem head_list : Try.prog.initOrder.toList = ht0 := by rw [head_str]; exact String.toList_ofList

theorem ws_gap (r : List Char) : wordsSigns (Char.ofNat 32 :: r) = [] :: wordsSigns r := rfl
theorem ws_cons (c : Char) (r : List Char) (h : c ≠ Char.ofNat 32) : wordsSigns (c :: r) = match wordsSigns r with | w :: ws => (c :: w) :: ws | [] => [[c]] := by
  rw [wordsSigns]
  · rfl
  · exact h
theorem ws_word : ∀ (l : List Char), (l.all fun c => c != Char.ofNat 32) = true → ∀ r, wordsSigns (l ++ Char.ofNat 32 :: r) = l :: wordsSigns r := by
  intro l
  induction l with
  | nil => intro _ r; exact ws_gap r
  | cons c l ih =>
    intro h r
    simp only [List.all_cons, Bool.and_eq_true, bne_iff_ne, ne_eq] at h
    rw [List.cons_append, ws_cons c _ h.1, ih h.2 r]
theorem ws_last : ∀ (l : List Char), (l.all fun c => c != Char.ofNat 32) = true → wordsSigns l = [l] := by
  intro l
  induction l with
  | nil => intro _; rfl
  | cons c l ih =>
    intro h
    simp only [List.all_cons, Bool.and_eq_true, bne_iff_ne, ne_eq] at h
    rw [ws_cons c _ h.1, ih h.2]
theorem head_words : wordsSigns Try.prog.initOrder.toList = [hw0, hw1, hw2, hw3, hw4] := by
  rw [head_list]
  rw [ht0, ws_word hw0 (by decide +kernel)]
  rw [ht1, ws_word hw1 (by decide +kernel)]
  rw [ht2, ws_word hw2 (by decide +kernel)]
  rw [ht3, ws_word hw3 (by decide +kernel)]
  rw [ht4, ws_last hw4 (by decide +kernel)]
set_option maxRecDepth 100000 in
theorem head_sum : isSumSigns hw1 = true := by kernel_rfl
theorem head_main : behindMainWord (wordsSigns Try.prog.initOrder.toList) = [hw2, hw3, hw4] := by
  rw [head_words, behindMainWord, head_sum]
  rfl
theorem head_strip : stripLifts liftWords [hw2, hw3, hw4] = ([], [hw2, hw3, hw4]) := by kernel_rfl
theorem may_enter_of {P : Program} {c : List Char} {rest : List (List Char)} (h : behindMainWord (wordsSigns P.initOrder.toList) = c :: rest) (h2 : stripLifts liftWords (c :: rest) = ([], c :: rest)) (h3 : (some c == some "cut".toList) = true)
    (h4 : P.laysLater = false) (h5 : P.bearsReflect = false) (h6 : P.doorFits [] = true) : P.mayEnter = true := by
  unfold Program.mayEnter
  rw [h]
  dsimp only
  rw [h2, h4, h5]
  dsimp only
  rw [h6, List.head?_cons, h3]
  simp
theorem lifts_final_of {P : Program} {c : List Char} {rest : List (List Char)} (h : behindMainWord (wordsSigns P.initOrder.toList) = c :: rest) (h2 : stripLifts liftWords (c :: rest) = ([], c :: rest)) (h3 : (some c == some "carried".toList) = false) : P.liftsFinal = false := by
  unfold Program.liftsFinal Program.headLifts
  rw [h]
  dsimp only
  rw [h2, List.head?_cons, h3]
  dsimp only
  split <;> simp
theorem make_of {P : Program} {c : List Char} {rest : List (List Char)} (h : behindMainWord (wordsSigns P.initOrder.toList) = c :: rest) (h1 : (c == "gc".toList || c == "spec".toList) = false) (h2 : (c == "cut".toList) = true) : P.make = some .cut := by
  unfold Program.make
  rw [h]
  dsimp only
  rw [h1, h2]
  simp
theorem make_is : Try.prog.make = some .cut := make_of head_main (by kernel_rfl) (by kernel_rfl)
theorem may_enter : Try.prog.mayEnter = true := may_enter_of head_main head_strip (by kernel_rfl) (by kernel_rfl) (by kernel_rfl) (by kernel_rfl)
theorem lifts_final : Try.prog.liftsFinal = false := lifts_final_of head_main head_strip (by kernel_rfl)
end Go.Proofs.Ytialpfmaekagjaa
