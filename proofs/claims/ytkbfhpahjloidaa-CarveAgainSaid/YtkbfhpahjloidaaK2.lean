/- Own text of this claim: an abstract machine over the given program form, and what follows from it. No condition. -/
import Derived.Test.YtkbfhpahjloidaaK1
set_option linter.unusedVariables false
set_option linter.unusedSimpArgs false
namespace Go.Proofs.Ytkbfhpahjloidaa
open Go Go.EV
noncomputable section
abbrev N (n : Nat) : AV := .int .i64 (Int.ofNat n)
/-- extents in a row: their numbers, one behind the other -/
def row (c : Nat → Int) : Nat → AV := fun j => .int .i64 (c j)
abbrev hints (f : Hints) (fn : Nat) (u : List (Nat × Sure)) : HB := ⟨f, fun g s => match Nat.beq g fn with | true => find s u | false => none⟩
where find (s : Nat) : List (Nat × Sure) → Option Sure
  | [] => none
  | (t, b) :: r => match Nat.beq s t with | true => some b | false => find s r

/-! Apart -/
def ex26 : Option AM := startA Try.prog 26 [.sl 0 0 3 none 2] (roHeap [(3 * 2, row fun _ => 0)]) noHint
def todoO : List AItem := todoAt Try.prog S3 3 ex26
def todoI : List AItem := todoAt Try.prog S3 7 ex26
abbrev heap1 (n : Nat) (c : Nat → Int) : AH := roHeap [(n * 2, row c)]
def HO (n : Nat) (c : Nat → Int) (j : Nat) (b : Bool) : AM :=
  ⟨⟨26, ⟨none, []⟩, 31, setT [(0, .sl 0 0 n none 2), (2, .bool false), (6, N n), (7, N j), (8, .bool b)], todoO⟩, [], heap1 n c, ⟨noHint, noSure⟩, []⟩
def HI (n : Nat) (c : Nat → Int) (j k : Nat) (b : Bool) : AM :=
  ⟨⟨26, ⟨none, []⟩, 31, setT [(0, .sl 0 0 n none 2), (2, .bool false), (3, N j), (6, N n), (7, N j), (10, N j), (11, N k), (12, .bool b)], todoI⟩, [], heap1 n c, ⟨noHint, noSure⟩, []⟩
def sO : List Nat := [0, 2, 6, 7, 8]
def sI : List Nat := [0, 2, 3, 6, 7, 10, 11, 12]
def st26 (n : Nat) (c : Nat → Int) : Option AM := startA Try.prog 26 [.sl 0 0 n none 2] (heap1 n c) noHint
def seg0 (n : Nat) (c : Nat → Int) (b : Bool) : Option (AM × Log) := oCase none (fun m => segX Try.prog S3 3 (withH (hints (tell 26 [(8, b)]) 26 []) m) sO) (st26 n c)
theorem seg0_eq (n : Nat) (c : Nat → Int) (b : Bool) : seg0 n c b = some (HO n c 0 b, logOf [(true, iLt (Int.ofNat 0) (Int.ofNat n), b)] []) := by
  kernel_rfl
theorem seg1_eq (n j : Nat) (c : Nat → Int) (b : Bool) : segX Try.prog S3 4 (withH (hints (tell 26 [(12, b)]) 26 []) (HO n c j true)) sI = some (HI n c j 0 b, logOf [(true, iLt (Int.ofNat 0) (Int.ofNat j), b)] []) := by
  kernel_rfl

/-- the extent of a place -/
abbrev cS (c : Nat → Int) (j : Nat) : Int := c (0 + j * 2)
abbrev cZ (c : Nat → Int) (j : Nat) : Int := c (0 + j * 2 + 1)
def meetAt (c : Nat → Int) (j k : Nat) : Bool := meetC (cS c j) (cZ c j) (cS c k) (cZ c k)
def inRow (n j : Nat) : List (Bool × Bool × Bool) := [(true, Nat.blt j n, true), (true, Nat.ble (0 + j * 2 + 2) (n * 2), true)]
def u2 (k : Nat) : List (Nat × Sure) := [(16, .sure), (17, .sure), (20, .sure), (21, .sure), (23, .int (Int.ofNat (k + 1)))]
theorem seg2_eq (n j k : Nat) (c : Nat → Int) (b : Bool) : segX Try.prog S3 8 (withH (hints (tell 26 [(22, false), (12, b)]) 26 (u2 k)) (HI n c j k true)) sI =
    some (HI n c j (k + 1) b, logOf (inRow n j ++ inRow n k ++ [(true, meetAt c j k, false), (true, iEq (W (Int.ofNat k + 1)) (Int.ofNat (k + 1)), true), (true, iLt (Int.ofNat (k + 1)) (Int.ofNat j), b)]) []) := by
  kernel_rfl
theorem seg3_eq (n j k : Nat) (c : Nat → Int) : lastX Try.prog S3 4 (withH (hints (tell 26 [(22, true)]) 26 (u2 k)) (HI n c j k true)) =
    some (.bool false, heap1 n c, logOf (inRow n j ++ inRow n k ++ [(true, meetAt c j k, true)]) []) := by
  kernel_rfl
def u4 (j : Nat) : List (Nat × Sure) := [(26, .sure), (27, .sure), (30, .int (Int.ofNat (j + 1)))]
def badAt (c : Nat → Int) (j : Nat) : Bool := !isE (cS c j) (cZ c j)
theorem seg4_eq (n j k : Nat) (c : Nat → Int) (b : Bool) : segX Try.prog S3 6 (withH (hints (tell 26 [(29, false), (8, b)]) 26 (u4 j)) (HI n c j k false)) sO =
    some (HO n c (j + 1) b, logOf (inRow n j ++ [(true, badAt c j, false), (true, iEq (W (Int.ofNat j + 1)) (Int.ofNat (j + 1)), true), (true, iLt (Int.ofNat (j + 1)) (Int.ofNat n), b)]) []) := by
  kernel_rfl
theorem seg5_eq (n j k : Nat) (c : Nat → Int) : lastX Try.prog S3 4 (withH (hints (tell 26 [(29, true)]) 26 (u4 j)) (HI n c j k false)) =
    some (.bool false, heap1 n c, logOf (inRow n j ++ [(true, badAt c j, true)]) []) := by
  kernel_rfl
theorem seg6_eq (n j : Nat) (c : Nat → Int) : lastX Try.prog S3 3 (withH (hints noHint 26 []) (HO n c j false)) =
    some (.bool true, heap1 n c, logOf [] []) := by
  kernel_rfl
end
end Go.Proofs.Ytkbfhpahjloidaa
