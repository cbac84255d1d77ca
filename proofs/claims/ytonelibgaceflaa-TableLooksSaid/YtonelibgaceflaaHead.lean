
/-
  Proved here: the words of the dump's head, and the facts of a row that read them. No conditions.
-/
import Derived.Test.YtonelibgaceflaaRows
import Derived.Test.YtonelibgaceflaaLaw
namespace Go.Proofs.Ytonelibgaceflaa
open Go.ChangeShapes Go.WideShapes Go.ChangeAt Go.RowKit

def headNums : List Nat := [104, 97, 114, 110, 101, 115, 115, 32, 99, 49, 52, 55, 54, 48, 49, 52, 52, 52, 48, 52, 98, 97, 100, 53, 100, 100, 56, 102, 98, 56, 100, 102, 55, 100, 53, 52, 51, 48, 52, 102, 101, 55, 52, 49, 51, 101, 100, 97, 55, 57, 55, 99, 51, 48, 100, 102, 56, 49, 99, 54, 99, 53, 53, 100, 100, 100, 54, 48, 51, 98, 57, 53, 32, 99, 117, 116, 32, 97, 116, 32, 119, 104, 105, 112, 99, 111, 114, 100, 47, 119, 104, 105, 112, 99, 111, 114, 100, 116, 111, 112, 46, 84, 111, 112, 82, 97, 110, 103, 101, 32, 119, 104, 105, 112, 99, 111, 114, 100, 47, 119, 104, 105, 112, 99, 111, 114, 100, 108, 97, 119, 46, 82, 117, 108, 101, 73, 100, 108, 101, 115, 32, 119, 104, 105, 112, 99, 111, 114, 100, 47, 119, 104, 105, 112, 99, 111, 114, 100, 108, 97, 119, 46, 81, 117, 101, 117, 101, 80, 108, 97, 121, 115, 32, 119, 104, 105, 112, 99, 111, 114, 100, 47, 119, 104, 105, 112, 99, 111, 114, 100, 108, 97, 119, 46, 67, 105, 100, 114, 82, 97, 110, 103, 101, 115, 32, 119, 104, 105, 112, 99, 111, 114, 100, 47, 119, 104, 105, 112, 99, 111, 114, 100, 108, 97, 119, 46, 67, 108, 97, 115, 115, 72, 105, 100, 100, 101, 110, 115, 32, 119, 104, 105, 112, 99, 111, 114, 100, 47, 119, 104, 105, 112, 99, 111, 114, 100, 108, 97, 119, 46, 67, 108, 97, 115, 115, 70, 105, 110, 100, 115, 32, 119, 104, 105, 112, 99, 111, 114, 100, 47, 119, 104, 105, 112, 99, 111, 114, 100, 108, 97, 119, 46, 84, 97, 98, 108, 101, 67, 104, 101, 99, 107, 115, 32, 119, 104, 105, 112, 99, 111, 114, 100, 47, 119, 104, 105, 112, 99, 111, 114, 100, 108, 97, 119, 46, 84, 97, 98, 108, 101, 76, 111, 111, 107, 115, 32, 119, 104, 105, 112, 99, 111, 114, 100, 47, 119, 104, 105, 112, 99, 111, 114, 100, 108, 97, 119, 46, 82, 117, 108, 101, 70, 105, 108, 116, 101, 114, 115, 32, 119, 104, 105, 112, 99, 111, 114, 100, 47, 119, 104, 105, 112, 99, 111, 114, 100, 108, 97, 119, 46, 83, 116, 114, 105, 100, 101, 77, 97, 107, 101, 115, 32, 119, 104, 105, 112, 99, 111, 114, 100, 47, 119, 104, 105, 112, 99, 111, 114, 100, 108, 97, 119, 46, 83, 104, 97, 114, 101, 84, 117, 114, 110, 115, 32, 119, 104, 105, 112, 99, 111, 114, 100, 47, 119, 104, 105, 112, 99, 111, 114, 100, 108, 97, 119, 46, 83, 104, 97, 114, 101, 68, 101, 97, 108, 115, 32, 119, 104, 105, 112, 99, 111, 114, 100, 47, 119, 104, 105, 112, 99, 111, 114, 100, 108, 97, 119, 46, 70, 101, 119, 101, 115, 116, 83, 97, 109, 101, 115, 32, 119, 104, 105, 112, 99, 111, 114, 100, 47, 119, 104, 105, 112, 99, 111, 114, 100, 108, 97, 119, 46, 80, 97, 105, 114, 80, 108, 97, 121, 115, 32, 119, 104, 105, 112, 99, 111, 114, 100, 47, 119, 104, 105, 112, 99, 111, 114, 100, 108, 97, 119, 46, 80, 97, 105, 114, 70, 114, 101, 101, 100, 115, 32, 119, 104, 105, 112, 99, 111, 114, 100, 47, 119, 104, 105, 112, 99, 111, 114, 100, 108, 97, 119, 46, 86, 105, 97, 65, 108, 108, 115, 32, 119, 104, 105, 112, 99, 111, 114, 100, 47, 119, 104, 105, 112, 99, 111, 114, 100, 108, 97, 119, 46, 79, 102, 102, 101, 114, 66, 101, 115, 116, 115, 32, 119, 104, 105, 112, 99, 111, 114, 100, 47, 119, 104, 105, 112, 99, 111, 114, 100, 108, 97, 119, 46, 79, 102, 102, 101, 114, 84, 97, 98, 108, 101, 115, 32, 119, 104, 105, 112, 99, 111, 114, 100, 47, 119, 104, 105, 112, 99, 111, 114, 100, 108, 97, 119, 46, 67, 105, 100, 114, 77, 101, 114, 103, 101, 115, 32, 119, 104, 105, 112, 99, 111, 114, 100, 47, 119, 104, 105, 112, 99, 111, 114, 100, 108, 97, 119, 46, 67, 105, 100, 114, 66, 111, 116, 104, 115, 32, 119, 104, 105, 112, 99, 111, 114, 100, 47, 119, 104, 105, 112, 99, 111, 114, 100, 108, 97, 119, 46, 67, 105, 100, 114, 77, 105, 110, 117, 115, 101, 115]
theorem headIs : Try.pinned.checked.prog.initOrder = String.ofList (headNums.map Char.ofNat) := by kernel_rfl
theorem headList : Try.pinned.checked.prog.initOrder.toList = headNums.map Char.ofNat := by rw [headIs, String.toList_ofList]
theorem cutIs : [Char.ofNat 99, Char.ofNat 117, Char.ofNat 116] = "cut".toList := by
  rw [show "cut" = String.ofList [Char.ofNat 99, Char.ofNat 117, Char.ofNat 116] from by kernel_rfl, String.toList_ofList]
theorem toList_ne {s o : String} (h : s ≠ o) : ¬ s.toList = o.toList := fun he => h (String.toList_inj.1 he)
theorem beq_ne {s o : String} (h : s ≠ o) : (s.toList == o.toList) = false := by simpa using toList_ne h
theorem strip_none (r : List (List Char)) : ∀ l : List String, (∀ o ∈ l, "cut" ≠ o) → stripLifts l ("cut".toList :: r) = ([], "cut".toList :: r)
  | [], _ => by unfold stripLifts; rfl
  | o :: l, h => by
    unfold stripLifts
    rw [beq_ne (h o (by simp)), if_neg (by simp)]
    exact strip_none r l (fun o' h' => h o' (by simp [h']))
def headRest : List (List Char) := (behindMainWord (wordsSigns (headNums.map Char.ofNat))).tail
theorem headWs : behindMainWord (wordsSigns Try.pinned.checked.prog.initOrder.toList) = "cut".toList :: headRest := by
  rw [headList, ← cutIs]
  kernel_rfl
theorem strip_head : stripLifts liftWords ("cut".toList :: headRest) = ([], "cut".toList :: headRest) := strip_none _ _ (by unfold liftWords; decide)
theorem laysLater_is : Try.pinned.checked.prog.laysLater = false := by kernel_rfl
theorem bearsReflect_is : Try.pinned.checked.prog.bearsReflect = false := by kernel_rfl
theorem doorFits_is : Try.pinned.checked.prog.doorFits [] = true := by kernel_rfl
theorem mayEnter_of {P : Program} {r : List (List Char)} {x : List Char} (h : behindMainWord (wordsSigns P.initOrder.toList) = x :: r) (hx : x = "cut".toList) (hs : stripLifts liftWords (x :: r) = ([], x :: r)) (h1 : P.laysLater = false) (h2 : P.bearsReflect = false) (h3 : P.doorFits [] = true) : P.mayEnter = true := by
  unfold Program.mayEnter
  rw [h]
  show ((_ || _) || _) = true
  rw [Bool.or_eq_true]
  right
  rw [hs, h1, h2, h3]
  show (((((some x == some "cut".toList) && _) && _) && _) && true) = true
  rw [hx, beq_self_eq_true]
  rfl
theorem mayEnter_is : Try.pinned.checked.prog.mayEnter = true := mayEnter_of headWs rfl strip_head laysLater_is bearsReflect_is doorFits_is
theorem headLifts_of {P : Program} {r : List (List Char)} {x : List Char} (h : behindMainWord (wordsSigns P.initOrder.toList) = x :: r) (hx : x = "cut".toList) (hs : stripLifts liftWords (x :: r) = ([], x :: r)) : P.headLifts = [] := by
  unfold Program.headLifts
  rw [h, hs]
  show (if (some x == some "cut".toList) = true then [] else []) = []
  split <;> rfl
theorem headLifts_is : Try.pinned.checked.prog.headLifts = [] := headLifts_of headWs rfl strip_head
theorem liftsFinal_of {P : Program} {r : List (List Char)} {x : List Char} (h : behindMainWord (wordsSigns P.initOrder.toList) = x :: r) (hl : P.headLifts = []) (hx : (some x == some "carried".toList) = false) : P.liftsFinal = false := by
  unfold Program.liftsFinal
  rw [h, hl]
  show ((some x == some "carried".toList && _) || false) = false
  rw [hx]
  rfl
theorem liftsFinal_is : Try.pinned.checked.prog.liftsFinal = false := liftsFinal_of headWs headLifts_is (by rw [Option.some_beq_some]; exact beq_ne (by decide))
theorem make_of {P : Program} {r : List (List Char)} {x : List Char} (h : behindMainWord (wordsSigns P.initOrder.toList) = x :: r) (h1 : (x == "gc".toList) = false) (h2 : (x == "spec".toList) = false) (hx : x = "cut".toList) : P.make = some .cut := by
  unfold Program.make
  rw [h]
  show (if (x == "gc".toList || x == "spec".toList) = true then some Make.whole else if (x == "cut".toList || _) = true then some Make.cut else _) = some Make.cut
  rw [h1, h2, if_neg (by decide), if_pos (by rw [hx, beq_self_eq_true]; rfl)]
theorem make_is : Try.pinned.checked.prog.make = some .cut := make_of headWs (beq_ne (by decide)) (beq_ne (by decide)) rfl
end Go.Proofs.Ytonelibgaceflaa
