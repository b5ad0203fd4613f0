/- Own text of this claim: an abstract machine over the given program form, and what follows from it. No condition. -/
import Derived.Test.YtggpbcgkjalepaaD2
set_option linter.unusedVariables false
set_option linter.unusedSimpArgs false
namespace Go.Proofs.Ytggpbcgkjalepaa
open Go Go.EV
noncomputable section
def F18 : List AV → Option AV
  | [] => some (.bool true)
  | _ => none
def S4 : Sum := S3.add 18 F18
def kO (c : Int) : Int := bif (iLt c 1 || iLt 448 c) then 0 else W ((W (c - 1)).tdiv 8)
def kS (c : Int) : Int := bif (iLt c 1 || iLt 448 c) then 0 else (W (c - 1)).tmod 8
def kE (c : Int) : Int := bif (iLt c 1 || iLt 448 c) then 2 else 0

/-! Cells -/
theorem run3 (o s c x f n : Int) : runV Try.prog S4 3 [key o s, i c, i x, i f, i n] (tell 3 [(29, true), (33, true), (39, true), (48, true), (57, true), (66, true), (73, true)]) 6 =
    some (.bool true, logOf [(true, iEq (codeOf o s) (codeOf o s), true), (true, ((kO c == kO c) && ((kS c == kS c) && true)), true), (true, iEq (kE c) (kE c), true), (true, iEq (objOf x f) (objOf x f), true),
      (true, iEq (slotOf o s f) (slotOf o s f), true), (true, iEq (coreOf x f) (coreOf x f), true), (true, iEq (guardC n) (guardR n), true)] []) := by
  kernel_rfl

/-! Apart -/
def n0 (a b d q : Bool) : Nat := 1 + (bif a then 1 else 0) + (bif a && b then 2 + (bif d then 1 else 0) else 0) + 1 + (bif a then 2 else 0) + 1 + (bif q then 1 else 0)
def n1 (a b d q : Bool) : Nat := n0 a b d q + 1 + (bif a then 4 else 0)
def sg (a b d q r : Bool) (n : Nat) : Bool := bif Nat.beq n (n0 a b d q) then !a else bif Nat.beq n (n1 a b d q) then !q else !r
def far (g x : Int) : Int := W (g - x)
theorem run4 (o s o' s' f g x : Int) (a b c d e q r : Bool) (h : (!(a && b) || (c == (d && e))) = true) : runV Try.prog S4 4 [key o s, key o' s', i f, i g, i x]
      (tellF 4 [(25, fun _ => a), (28, fun _ => b), (33, fun _ => c), (36, fun _ => d), (40, fun _ => e), (51, fun _ => a), (55, fun _ => false), (59, fun _ => false), (64, fun _ => q), (68, fun _ => false),
        (85, sg a b d q r), (92, fun _ => false), (97, fun _ => false), (106, fun _ => false), (115, fun _ => false), (118, fun _ => a), (124, fun _ => false), (128, fun _ => q), (134, fun _ => false), (139, fun _ => r), (145, fun _ => false)]) 8 =
    some (.bool true, logOf [(true, !iLt (slotOf o s f) 0, a), (a, !iLt (slotOf o' s' g) 0, b), (a && b, iEq (slotOf o s f) (slotOf o' s' g), c), (a && b, ((o == o') && ((s == s') && true)), d), (a && b && d, iEq f g, e),
      (true, !iLt (slotOf o s f) 0, a), (a, iEq (slotOf o s f) (objOf x f), false), (a, iEq (slotOf o s f) (coreOf x g), false), (true, !iLt (objOf x f) 0, q), (q, iEq (objOf x f) (coreOf x g), false),
      (true, iLt (slotOf o s f) 0, !a), (a, iLt (guardC (slotOf o s f)) 0, false), (a, !iEq (guardC (guardC (slotOf o s f))) (guardC (slotOf o s f)), false), (a, iLt 15 (far (guardC (slotOf o s f)) (slotOf o s f)), false), (a, iLt 15 (far (slotOf o s f) (guardC (slotOf o s f))), false),
      (true, iLt (objOf x f) 0, !q), (q, iLt (guardC (objOf x f)) 0, false), (q, !iEq (guardC (guardC (objOf x f))) (guardC (objOf x f)), false), (q, iLt 15 (far (guardC (objOf x f)) (objOf x f)), false), (q, iLt 15 (far (objOf x f) (guardC (objOf x f))), false),
      (true, iLt (coreOf x g) 0, !r), (r, iLt (guardC (coreOf x g)) 0, false), (r, !iEq (guardC (guardC (coreOf x g))) (guardC (coreOf x g)), false), (r, iLt 15 (far (guardC (coreOf x g)) (coreOf x g)), false), (r, iLt 15 (far (coreOf x g) (guardC (coreOf x g))), false),
      (true, !iLt (slotOf o s f) 0, a), (a, !iEq (guardC (slotOf o s f)) (slotOf o s 0), false), (true, !iLt (objOf x f) 0, q), (q, !iEq (guardC (objOf x f)) (objOf x 0), false), (true, !iLt (coreOf x g) 0, r), (r, !iEq (guardC (coreOf x g)) (coreOf x 15), false)] []) := by
  revert h
  cases a <;> cases b <;> cases c <;> cases d <;> cases e <;> cases q <;> cases r <;> intro h <;> first | exact absurd h (by decide) | kernel_rfl
end
end Go.Proofs.Ytggpbcgkjalepaa
