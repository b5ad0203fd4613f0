/- Own text of this claim: an abstract machine over the given program form, and what follows from it. No condition. -/
import Derived.Test.YtkbfhpahjloidaaK3
set_option linter.unusedVariables false
set_option linter.unusedSimpArgs false
namespace Go.Proofs.Ytkbfhpahjloidaa
open Go Go.EV
noncomputable section
section
variable (s z w : Int) (a : Nat → Int) (n : Nat)
def bC : ABlk := .row (n * 2) [] (.fn fun q => some (.int .i64 (cO s z w a q)))
abbrev el (j : Nat) : Int := a (0 + j * 1)
theorem A3 (j : Nat) : lastX Try.prog S3 5 (withH (hints (tells 23 [(37, true)] 5 [(25, true), (32, true)]) 23 (uM j)) (MO s z w a n (bG s z w a n j) j true)) =
    some (.bool true, (hp s z a n (bG s z w a n (j + 1))), logOf (chM n j ++ [(true, !iEq (pe' s z w a j) 0, true), (true, !iEq (pe' s z w a j) 0, true), (true, iEq w w, true)]) []) := by
  kernel_rfl
def tW : List AItem := todoAt Try.prog S3 38 exL
def sW : List Nat := [1, 2, 3, 7, 8]
def LW : AM := ⟨⟨5, ⟨none, []⟩, 131, setT [(1, i w), (2, .sl 0 0 n none 1), (3, .ptr 8 0), (7, .sl 10 0 n (some n) 2), (8, i (wt s z w a n))], tW⟩, [], hp s z a n (bC s z w a n), ⟨noHint, noSure⟩, []⟩
theorem A4 : segX Try.prog S3 7 (withH (hints noHint 23 []) (MO s z w a n (bC s z w a n) n false)) sW = some (LW s z w a n, logOf [] []) := by
  kernel_rfl
def tA : List AItem := belowTodo 42
def lawA : AFr := ⟨5, ⟨none, []⟩, 131, setT [(1, i w), (2, .sl 0 0 n none 1), (3, .ptr 8 0), (7, .sl 10 0 n (some n) 2), (8, i (wt s z w a n)), (37, .sl 10 0 n (some n) 2), (38, N n), (39, .sl 0 0 n none 1), (40, N n), (41, .bool false), (42, .bool false), (43, .sl 10 0 n (some n) 2)], tA⟩
def HO2 (j : Nat) (b : Bool) : AM :=
  ⟨⟨26, ⟨none, []⟩, 31, setT [(0, .sl 10 0 n (some n) 2), (2, .bool false), (6, N n), (7, N j), (8, .bool b)], todoO⟩, [lawA s z w a n], hp s z a n (bC s z w a n), ⟨noHint, noSure⟩, []⟩
def HI2 (j k : Nat) (b : Bool) : AM :=
  ⟨⟨26, ⟨none, []⟩, 31, setT [(0, .sl 10 0 n (some n) 2), (2, .bool false), (3, N j), (6, N n), (7, N j), (10, N j), (11, N k), (12, .bool b)], todoI⟩, [lawA s z w a n], hp s z a n (bC s z w a n), ⟨noHint, noSure⟩, []⟩
theorem B0 (b : Bool) : segX Try.prog S3 4 (withH (hints (tells 5 [(41, false)] 26 [(8, b)]) 26 []) (LW s z w a n)) sO =
    some (HO2 s z w a n 0 b, logOf [(true, !iEq (Int.ofNat n) (Int.ofNat n), false), (true, iLt (Int.ofNat 0) (Int.ofNat n), b)] []) := by
  kernel_rfl
theorem B1 (j : Nat) (b : Bool) : segX Try.prog S3 4 (withH (hints (tell 26 [(12, b)]) 26 []) (HO2 s z w a n j true)) sI = some (HI2 s z w a n j 0 b, logOf [(true, iLt (Int.ofNat 0) (Int.ofNat j), b)] []) := by
  kernel_rfl
theorem B2 (j k : Nat) (b : Bool) : segX Try.prog S3 8 (withH (hints (tell 26 [(22, false), (12, b)]) 26 (u2 k)) (HI2 s z w a n j k true)) sI =
    some (HI2 s z w a n j (k + 1) b, logOf (inRow n j ++ inRow n k ++ [(true, meetAt (cO s z w a) j k, false), (true, iEq (W (Int.ofNat k + 1)) (Int.ofNat (k + 1)), true), (true, iLt (Int.ofNat (k + 1)) (Int.ofNat j), b)]) []) := by
  kernel_rfl
theorem B4 (j k : Nat) (b : Bool) : segX Try.prog S3 6 (withH (hints (tell 26 [(29, false), (8, b)]) 26 (u4 j)) (HI2 s z w a n j k false)) sO =
    some (HO2 s z w a n (j + 1) b, logOf (inRow n j ++ [(true, badAt (cO s z w a) j, false), (true, iEq (W (Int.ofNat j + 1)) (Int.ofNat (j + 1)), true), (true, iLt (Int.ofNat (j + 1)) (Int.ofNat n), b)]) []) := by
  kernel_rfl
def tLo : List AItem := todoAt Try.prog S3 77 exL
def sL : List Nat := [1, 2, 3, 7, 8, 10, 66]
def LO (j : Nat) (b : Bool) : AM :=
  ⟨⟨5, ⟨none, []⟩, 131, setT [(1, i w), (2, .sl 0 0 n none 1), (3, .ptr 8 0), (7, .sl 10 0 n (some n) 2), (8, i (wt s z w a n)), (10, N j), (66, .bool b)], tLo⟩, [], hp s z a n (bC s z w a n), ⟨noHint, noSure⟩, []⟩
theorem B6 (j : Nat) (p b : Bool) : segX Try.prog S3 7 (withH (hints (tell 5 [(50, p), (54, false), (59, false), (66, b)]) 5 []) (HO2 s z w a n j false)) sL =
    some (LO s z w a n 0 b, logOf [(true, iLt 0 (Int.ofNat n), p), (p, !iLt w (wt s z w a n), false), (p, iLt z (wt s z w a n), false), (true, iLt (Int.ofNat 0) (Int.ofNat n), b)] []) := by
  cases p <;> kernel_rfl
def uL (j : Nat) : List (Nat × Sure) := [(68, .int (Int.ofNat (j + 1))), (71, .sure), (72, .sure), (79, .sure), (81, .sure), (84, .sure), (85, .sure), (91, .sure), (93, .sure), (96, .sure), (97, .sure), (98, .sure), (104, .sure), (106, .sure), (116, .sure), (118, .sure), (125, .sure), (126, .sure)]
def inN (j : Nat) : Bool × Bool × Bool := (true, Nat.blt j n, true)
def inA (j : Nat) : Bool × Bool × Bool := (true, Nat.blt (0 + j * 1) n, true)
def inS (j : Nat) : Bool × Bool × Bool := (true, Nat.blt (0 + j * 2 + 0) (n * 2), true)
abbrev oS (j : Nat) : Int := cO s z w a (0 + j * 2 + 0)
theorem C1 (j : Nat) (b : Bool) : segX Try.prog S3 7 (withH (hints (tell 5 [(74, true), (86, false), (99, false), (111, false), (128, false), (66, b)]) 5 (uL j)) (LO s z w a n j true)) sL =
    some (LO s z w a n (j + 1) b, logOf [inN n j, (true, Nat.ble (0 + j * 2 + 2) (n * 2), true), (true, inside (cS (cO s z w a) j) (cZ (cO s z w a) j) s z, true),
      inN n j, (true, Nat.blt (0 + j * 2 + 1) (n * 2), true), inN n j, inA n j, (true, !iEq (cZ (cO s z w a) j) (el a j), false),
      inN n j, inS n j, inN n j, inA n j, (true, !iEq (el a j) 0, true), (true, !iEq ((oS s z w a j).tmod (el a j)) 0, false),
      inN n j, inS n j, (true, iLt (W (oS s z w a j - s)) w, false),
      inN n j, inS n j, inN n j, inA n j, (true, iLt (W (wt s z w a n - el a j)) (W (oS s z w a j - s)), false),
      (true, iEq (W (Int.ofNat j + 1)) (Int.ofNat (j + 1)), true), (true, iLt (Int.ofNat (j + 1)) (Int.ofNat n), b)] []) := by
  kernel_rfl
theorem D1 (j : Nat) : lastX Try.prog S3 3 (withH (hints noHint 5 []) (LO s z w a n j false)) = some (.bool true, hp s z a n (bC s z w a n), logOf [] []) := by
  kernel_rfl
theorem E1 : oCase none (fun m => lastX Try.prog S3 3 (withH (hints (tell 5 [(13, true)]) 5 []) m)) (stL s z w a n) = some (.bool true, ⟨Tr.set (.row 2 [i s, i z] .nil) (Tr.set (.ro n (row a)) .nil 0) 8, 9⟩, logOf [(true, iLt 60 (Int.ofNat n), true)] []) := by
  kernel_rfl
end
theorem nil_run (s z w : Int) : runV Try.prog S3 5 [ext s z, i w, .nilsl] (tell 5 []) 6 = some (.bool true, logOf [] []) := by
  kernel_rfl
end
end Go.Proofs.Ytkbfhpahjloidaa
