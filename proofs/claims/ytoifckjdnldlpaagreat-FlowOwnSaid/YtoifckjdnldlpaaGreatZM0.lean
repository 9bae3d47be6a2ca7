/- The head words of the program's text: facts that the kernel does not bear through a long string. -/
import Derived.Test.YtoifckjdnldlpaaGreatProg
import Derived.JoinedOf
import Derived.KernelRfl
set_option linter.unusedVariables false
set_option linter.unusedSimpArgs false
namespace Am
open Go Go.Proofs
def hw1 : List Char := [104, 97, 114, 110, 101, 115, 115].map Char.ofNat
def hw2 : List Char := [56, 53, 57, 50, 50, 56, 55, 101, 48, 97, 52, 99, 99, 56, 102, 98, 50, 102, 98, 53, 97, 57, 51, 48, 51, 51, 56, 49, 52, 48, 53, 100, 100, 100, 48, 53, 101, 56, 50, 53, 102, 52, 56, 55, 56, 53, 98, 97, 99, 50, 101, 52, 51, 57, 56, 54, 98, 55, 99, 101, 52, 55, 57, 53].map Char.ofNat
def hw3 : List Char := [99, 117, 116].map Char.ofNat
def hwR : List Char := [97, 116, 32, 118, 105, 114, 103, 97, 116, 105, 111, 110, 47, 118, 105, 114, 103, 97, 116, 105, 111, 110, 108, 97, 119, 50, 51, 46, 84, 114, 105, 109, 65, 108, 108, 32, 118, 105, 114, 103, 97, 116, 105, 111, 110, 47, 118, 105, 114, 103, 97, 116, 105, 111, 110, 108, 97, 119, 50, 51, 46, 84, 114, 105, 109, 84, 114, 101, 101, 32, 118, 105, 114, 103, 97, 116, 105, 111, 110, 47, 118, 105, 114, 103, 97, 116, 105, 111, 110, 108, 97, 119, 49, 57, 46, 70, 108, 111, 119, 72, 101, 97, 100, 115, 32, 118, 105, 114, 103, 97, 116, 105, 111, 110, 47, 118, 105, 114, 103, 97, 116, 105, 111, 110, 108, 97, 119, 49, 57, 46, 70, 108, 111, 119, 79, 119, 110].map Char.ofNat
def hws : Char := Char.ofNat 32
theorem ord_eq : Tryz.prog.initOrder = String.ofList (hw1 ++ hws :: (hw2 ++ hws :: (hw3 ++ hws :: hwR))) := by kernel_rfl
theorem ord_list : Tryz.prog.initOrder.toList = hw1 ++ hws :: (hw2 ++ hws :: (hw3 ++ hws :: hwR)) := by rw [ord_eq, String.toList_ofList]
theorem wordsSigns_cons {c : Char} {r : List Char} (hc : c ≠ hws) {w : List Char} {ws : List (List Char)} (h : wordsSigns r = w :: ws) : wordsSigns (c :: r) = (c :: w) :: ws := by
  rw [wordsSigns.eq_3 c r (fun e => hc e), h]
theorem wordsSigns_sp (r : List Char) : wordsSigns (hws :: r) = [] :: wordsSigns r := wordsSigns.eq_2 r
theorem wordsSigns_app : ∀ (w r : List Char), w.all (fun c => c != hws) = true → wordsSigns (w ++ hws :: r) = w :: wordsSigns r
  | [], r, _ => wordsSigns_sp r
  | c :: w, r, h => by
    simp only [List.all_cons, Bool.and_eq_true, bne_iff_ne, ne_eq] at h
    exact wordsSigns_cons h.1 (wordsSigns_app w r h.2)
theorem words : wordsSigns Tryz.prog.initOrder.toList = hw1 :: hw2 :: hw3 :: wordsSigns hwR := by
  rw [ord_list, wordsSigns_app _ _ (by kernel_rfl), wordsSigns_app _ _ (by kernel_rfl), wordsSigns_app _ _ (by kernel_rfl)]
theorem behind (R : List (List Char)) : behindMainWord (hw1 :: hw2 :: hw3 :: R) = hw3 :: R := by
  unfold behindMainWord
  exact if_pos (by kernel_rfl)
theorem beh : behindMainWord (wordsSigns Tryz.prog.initOrder.toList) = hw3 :: wordsSigns hwR := by rw [words, behind]
theorem strips (R : List (List Char)) : stripLifts liftWords (hw3 :: R) = ([], hw3 :: R) := by
  have h : ∀ os : List String, os.all (fun o => !(hw3 == o.toList)) = true → stripLifts os (hw3 :: R) = ([], hw3 :: R) := by
    intro os
    induction os with
    | nil => intro _; rfl
    | cons o os ih =>
      intro h
      simp only [List.all_cons, Bool.and_eq_true, Bool.not_eq_true'] at h
      show (if (hw3 == o.toList) = true then _ else stripLifts os (hw3 :: R)) = _
      rw [h.1, if_neg (by decide)]
      exact ih h.2
  exact h liftWords (by kernel_rfl)
theorem cutW : (hw3 == "cut".toList) = true := by kernel_rfl
theorem gcW : (hw3 == "gc".toList) = false := by kernel_rfl
theorem specW : (hw3 == "spec".toList) = false := by kernel_rfl
theorem carW : (hw3 == "carried".toList) = false := by kernel_rfl
theorem lays : Tryz.prog.laysLater = false := by kernel_rfl
theorem bears : Tryz.prog.bearsReflect = false := by kernel_rfl
theorem doors : Tryz.prog.doorFits [] = true := by kernel_rfl
theorem mayEnter_of {P : Program} {c : List Char} {R : List (List Char)} (h : behindMainWord (wordsSigns P.initOrder.toList) = c :: R) (g : (c == "gc".toList) = false) (s : (c == "spec".toList) = false)
    (r : (c == "carried".toList) = false) (k : (c == "cut".toList) = true) (st : stripLifts liftWords (c :: R) = ([], c :: R)) (l : P.laysLater = false) (b : P.bearsReflect = false) (d : P.doorFits [] = true) : P.mayEnter = true := by
  unfold Program.mayEnter
  rw [h]
  have e : c = "cut".toList := beq_iff_eq.mp k
  simp only [st, g, s, r, l, b, d, List.head?_cons, Bool.or_false, Bool.false_and, Bool.false_or, Bool.not_false, Bool.or_true, Bool.and_true, List.contains_nil]
  rw [e]; exact beq_self_eq_true _
theorem headLifts_of {P : Program} {c : List Char} {R : List (List Char)} (h : behindMainWord (wordsSigns P.initOrder.toList) = c :: R) (st : stripLifts liftWords (c :: R) = ([], c :: R)) : P.headLifts = [] := by
  unfold Program.headLifts
  rw [h]
  simp only [st]
  split <;> rfl
theorem liftsFinal_of {P : Program} {c : List Char} {R : List (List Char)} (h : behindMainWord (wordsSigns P.initOrder.toList) = c :: R) (st : stripLifts liftWords (c :: R) = ([], c :: R)) (r : (c == "carried".toList) = false) : P.liftsFinal = false := by
  unfold Program.liftsFinal
  rw [headLifts_of h st, h]
  have : (some c == some "carried".toList) = false := r
  simp only [List.head?_cons, this, Bool.false_and, List.contains_nil, Bool.or_false]
theorem make_of {P : Program} {c : List Char} {R : List (List Char)} (h : behindMainWord (wordsSigns P.initOrder.toList) = c :: R) (g : (c == "gc".toList) = false) (s : (c == "spec".toList) = false)
    (k : (c == "cut".toList) = true) : P.make = some .cut := by
  unfold Program.make
  rw [h]
  simp only [g, s, k, Bool.or_false, Bool.true_or, Bool.false_eq_true, if_false, if_true]
theorem mayEnter : Tryz.prog.mayEnter = true := mayEnter_of beh gcW specW carW cutW (strips _) lays bears doors
theorem liftsFinal : Tryz.prog.liftsFinal = false := liftsFinal_of beh (strips _) carW
theorem make : Tryz.prog.make = some .cut := make_of beh gcW specW cutW
end Am
