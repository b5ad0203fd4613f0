/- Own text of this claim: an abstract machine over the given program form, and what follows from it. No condition. -/
import Derived.Test.YtkbfhpahjloidaaK2
set_option linter.unusedVariables false
set_option linter.unusedSimpArgs false
namespace Go.Proofs.Ytkbfhpahjloidaa
open Go Go.EV
noncomputable section
def tells (f : Nat) (l : List (Nat × Bool)) (g : Nat) (r : List (Nat × Bool)) : Hints := fun a s => match Nat.beq a f with | true => tell f l a s | false => tell g r a s

/-! what the pieces are: the water ahead of each, where it starts, its size, the error -/
section
variable (s z w : Int) (a : Nat → Int)
def wt : Nat → Int
  | 0 => w
  | j + 1 => pW s z (wt j) (a (0 + j * 1))
def ps' (j : Nat) : Int := pS s z (wt s z w a j) (a (0 + j * 1))
def pz' (j : Nat) : Int := pZ s z (wt s z w a j) (a (0 + j * 1))
def pe' (j : Nat) : Int := pE s z (wt s z w a j) (a (0 + j * 1))
/-- the row of pieces behind j of them -/
def gRow : Nat → Nat → Option AV
  | 0 => fun _ => some (i 0)
  | j + 1 => Tr.put1 (i (pz' s z w a j)) (Tr.put1 (i (ps' s z w a j)) (gRow j) (0 + j * 2)) (0 + j * 2 + 1)
/-- all of them, as numbers -/
def cO (q : Nat) : Int := bif Nat.beq (q % 2) 0 then ps' s z w a (q / 2) else pz' s z w a (q / 2)

def exL : Option AM := startA Try.prog 5 [ext 0 100, i 0, .sl 0 0 2 none 1] (roHeap [(2, row fun _ => 4)]) noHint
def topAt (n : Nat) : Option AFr := oCase none (fun m => ARes.rec (motive := fun _ => Option AFr) (fun m => some m.top) (fun _ _ _ => none) (fun _ => none) (EV.runN Try.prog (toT S3) n m)) exL
def belowTodo (n : Nat) : List AItem := oCase [] (fun m => ARes.rec (motive := fun _ => List AItem) (fun m => List.rec (motive := fun _ => List AItem) [] (fun f _ _ => f.todo) m.below) (fun _ _ _ => []) (fun _ => []) (EV.runN Try.prog (toT S3) n m)) exL
def tM : List AItem := todoAt Try.prog S3 9 exL
def tMl : List AItem := belowTodo 9
variable (n : Nat)
/-- memory: the list, the extent, its copy, the row of pieces -/
def hp (b : ABlk) : AH := ⟨Tr.set b (Tr.set (.row 2 [i s, i z] .nil) (Tr.set (.row 2 [i s, i z] .nil) (Tr.set (.ro n (row a)) .nil 0) 8) 9) 10, 11⟩
def lawM : AFr := ⟨5, ⟨none, []⟩, 131, setT [(0, ext s z), (1, i w), (2, .sl 0 0 n none 1), (3, .ptr 8 0), (6, .bool false), (11, .sl 0 0 n none 1), (12, N n), (13, .bool false), (16, ext s z), (17, i w), (18, .sl 0 0 n none 1)], tMl⟩
def MO (blk : ABlk) (j : Nat) (b : Bool) : AM :=
  ⟨⟨23, ⟨none, []⟩, 43, setT [(1, i w), (2, .sl 0 0 n none 1), (3, .ptr 9 0), (9, .sl 10 0 n (some n) 2), (10, i (wt s z w a j)), (18, N n), (19, N j), (20, .bool b)], tM⟩, [lawM s z w n], hp s z a n blk, ⟨noHint, noSure⟩, []⟩
def sM : List Nat := [1, 2, 3, 9, 10, 18, 19, 20]
def b0 : ABlk := .row (n * 2) [i 0, i 0] .nil
def bG (j : Nat) : ABlk := .row (n * 2) [] (.fn (gRow s z w a j))
def stL : Option AM := startA Try.prog 5 [ext s z, i w, .sl 0 0 n none 1] (roHeap [(n, row a)]) noHint
theorem A1 (b : Bool) : oCase none (fun m => segX Try.prog S3 9 (withH ⟨tells 5 [(13, false)] 23 [(20, b)], fun f s => match Nat.beq f 23 with | true => hints.find s [(15, .sure)] | false => none⟩ m) sM) (stL s z w a n) =
    some (MO s z w a n (b0 n) 0 b, logOf [(true, iLt 60 (Int.ofNat n), false), (true, Nat.ble n n && Nat.ble (16 * n) (2 ^ 47) && Nat.ble n (2 ^ 47), true), (true, iLt (Int.ofNat 0) (Int.ofNat n), b)] []) := by
  kernel_rfl
def uM (j : Nat) : List (Nat × Sure) := [(29, .sure), (30, .sure), (35, .sure), (40, .int (Int.ofNat (j + 1)))]
def chM (j : Nat) : List (Bool × Bool × Bool) := [(true, Nat.blt j n, true), (true, Nat.blt (0 + j * 1) n, true), (true, Nat.blt j n, true), (true, Nat.ble (0 + j * 2 + 2) (n * 2), true)]
theorem A2 (j : Nat) (b : Bool) : segX Try.prog S3 11 (withH (hints (tell 23 [(37, false), (20, b)]) 23 (uM j)) (MO s z w a n (bG s z w a n j) j true)) sM =
    some (MO s z w a n (bG s z w a n (j + 1)) (j + 1) b, logOf (chM n j ++ [(true, !iEq (pe' s z w a j) 0, false), (true, iEq (W (Int.ofNat j + 1)) (Int.ofNat (j + 1)), true), (true, iLt (Int.ofNat (j + 1)) (Int.ofNat n), b)]) []) := by
  kernel_rfl
end
end
end Go.Proofs.Ytkbfhpahjloidaa
