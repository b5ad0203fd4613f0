/- Own text of this claim: an abstract machine over the given program form, and what follows from it. No condition. -/
import Derived.Test.YtkbfhpahjloidaaK11
set_option linter.unusedVariables false
set_option linter.unusedSimpArgs false
namespace Go.Proofs.Ytkbfhpahjloidaa
open Go Go.EV
noncomputable section
/-! the law's runs: what is logged -/
def mdA (l : List (Nat × Mode)) (x : Nat) : Mode := match l with
  | [] => .ok
  | (k, m) :: r => match Nat.beq x k with | true => m | false => mdA r x
def runA (modes : List (Nat × Mode)) (tl : List (Nat × Bool)) (uA : List (Nat × Sure)) (args : List AV) (rows : List (Nat × (Nat → AV))) : Option (AV × Log) :=
  oCase none (fun m => lastV Try.prog (TA (mdA modes)) 5 (withH (hints (tell 6 tl) 6 uA) m)) (startA Try.prog 6 args (roHeap rows) noHint)
def fx (s z : Int) : Bool := AV.beq (ext s z) (ext s z)
/-- the check of an append -/
def ckA (size bytes : Nat) (len n : Nat) (c : Bool) (cells : Nat) (new : List AV) (old : Bool) : Bool :=
  (Nat.blt 0 size && Nat.blt 0 bytes && Nat.beq size size && Nat.ble (bytes * (len + n + 1000) * 4) (2 ^ 47)) && c && (Nat.beq (lenF new 0) cells && new.all notAgg) && Nat.beq size size && old
/-- two rows, one behind the other -/
def tC (e : Nat) (f : Nat → AV) (n : Nat) (g : Nat → AV) (m : Nat) : Tr AV := Tr.setLF (rowList g 0 (m * e)) (Tr.setLF (rowList f 0 (n * e)) .nil (0 * e)) ((0 + n) * e)
def cat (e : Nat) (f : Nat → AV) (n : Nat) (g : Nat → AV) (m : Nat) (j : Nat) : AV := orUndef ((tC e f n g m).get (0 + j))
section
variable (s z w : Int) (n m : Nat) (a b : Nat → Int)
def rA (a : Nat → Int) : Nat → AV := fun j => row a (0 + j)
def iA (f : Nat → AV) : Nat → Int := fun j => toI (f j)
def rc : Nat → AV := cat 1 (row a) n (row b) m
def K1 : Bool := Nat.ble n 900 && Nat.ble (0 + n) n && true && allI (rA a) n && okB s z w (iA (rA a)) n
def K2 : Bool := Nat.ble (0 + n + m) 900 && Nat.ble (0 + (0 + n + m)) ((0 + n) * 1 + lenF (rowList (row b) 0 (m * 1)) 0) && allSome (tC 1 (row a) n (row b) m).get 0 (0 + n + m) && allI (rc n m a b) (0 + n + m) && okB s z w (iA (rc n m a b)) (0 + n + m)
def wA : Int := wt s z w (iA (rA a)) n
def vA : Int := wt s z w (iA (rc n m a b)) (0 + n + m)
def uB : Int := wt s z (wA s z w n a) (iA (rA b)) m
def K3 : Bool := Nat.ble m 900 && Nat.ble (0 + m) m && true && allI (rA b) m && okB s z (wA s z w n a) (iA (rA b)) m
def A1c : Bool := ckA 1 8 0 n (Nat.ble n n && Nat.ble (0 + n * 1) n) (n * 1) (rowList (row a) 0 (n * 1)) (!(Nat.ble (0 + n) 0)) && (Nat.beq 0 0 && Nat.beq 0 (0 * 1))
def A2c : Bool := ckA 1 8 (0 + n) m (Nat.ble m m && Nat.ble (0 + m * 1) m) (m * 1) (rowList (row b) 0 (m * 1)) (Nat.beq 0 0 && Nat.beq (0 * 1 + lenF (rowList (row a) 0 (n * 1)) 0) ((0 + n) * 1))
/-- the pieces, one row behind the other -/
def pA : Nat → AV := fun q => AV.int .i64 (cO s z w (iA (rA a)) q)
def pB : Nat → AV := fun q => AV.int .i64 (cO s z (wA s z w n a) (iA (rA b)) q)
def pC : Nat → AV := fun q => AV.int .i64 (cO s z w (iA (rc n m a b)) q)
def rp : Nat → AV := cat 2 (pA s z w a) n (pB s z w n a b) m
def A3c : Bool := ckA 2 16 0 n (Nat.ble n n && Nat.ble (0 + n * 2) (n * 2) && allSome (fun q => some (pA s z w a q)) 0 (n * 2)) (n * 2) (rowList (pA s z w a) 0 (n * 2)) (!(Nat.ble (0 + n) 0)) && (Nat.beq 0 0 && Nat.beq 0 (0 * 2))
def A4c : Bool := ckA 2 16 (0 + n) m (Nat.ble m m && Nat.ble (0 + m * 2) (m * 2) && allSome (fun q => some (pB s z w n a b q)) 0 (m * 2)) (m * 2) (rowList (pB s z w n a b) 0 (m * 2)) (Nat.beq 0 0 && Nat.beq (0 * 2 + lenF (rowList (pA s z w a) 0 (n * 2)) 0) ((0 + n) * 2))
def K5 : Bool := Nat.beq (0 + n + m) (0 + n + m) && Nat.ble (0 + n + m) 900 && Nat.ble (0 + (0 + n + m) * 2) ((0 + n + m) * 2) && Nat.ble (0 + (0 + n + m) * 2) ((0 + n) * 2 + lenF (rowList (pB s z w n a b) 0 (m * 2)) 0) &&
  allSome (fun q => some (pC s z w n m a b q)) 0 ((0 + n + m) * 2) && allSome (tC 2 (pA s z w a) n (pB s z w n a b) m).get 0 ((0 + n + m) * 2) && allI (fun j => pC s z w n m a b (0 + j)) ((0 + n + m) * 2) && allI (rp s z w n m a b) ((0 + n + m) * 2) &&
  eqI (fun j => pC s z w n m a b (0 + j)) (rp s z w n m a b) ((0 + n + m) * 2)

def K1n (j : Nat) : Bool := Nat.ble n 900 && Nat.ble (0 + n) n && true && allI (rA a) n && Nat.blt j n && okB s z w (iA (rA a)) j && !iEq (pe' s z w (iA (rA a)) j) 0
def K2n (j : Nat) : Bool := Nat.ble (0 + n + m) 900 && Nat.ble (0 + (0 + n + m)) ((0 + n) * 1 + lenF (rowList (row b) 0 (m * 1)) 0) && allSome (tC 1 (row a) n (row b) m).get 0 (0 + n + m) && allI (rc n m a b) (0 + n + m) && Nat.blt j (0 + n + m) && okB s z w (iA (rc n m a b)) j && !iEq (pe' s z w (iA (rc n m a b)) j) 0
def K3n (j : Nat) : Bool := Nat.ble m 900 && Nat.ble (0 + m) m && true && allI (rA b) m && Nat.blt j m && okB s z (wA s z w n a) (iA (rA b)) j && !iEq (pe' s z (wA s z w n a) (iA (rA b)) j) 0
/-- the first append, of the second list -/
def A3m : Bool := ckA 2 16 0 m (Nat.ble m m && Nat.ble (0 + m * 2) (m * 2) && allSome (fun q => some (pB s z w 0 a b q)) 0 (m * 2)) (m * 2) (rowList (pB s z w 0 a b) 0 (m * 2)) (!(Nat.ble (0 + m) 0)) && (Nat.beq 0 0 && Nat.beq 0 (0 * 2))
def big (n : Nat) (b : Bool) : Bool × Bool × Bool := (true, iLt 60 (Int.ofNat n), b)
def argsRR : List AV := [ext s z, i w, .sl 0 0 n none 1, .sl 1 0 m none 1]
def argsRE (k : Bool) : List AV := [ext s z, i w, .sl 0 0 n none 1, lvA k]
def argsER (k : Bool) : List AV := [ext s z, i w, lvA k, .sl 0 0 m none 1]
def argsEE (k k' : Bool) : List AV := [ext s z, i w, lvA k, lvA k']
def rowsRR : List (Nat × (Nat → AV)) := [(n, row a), (m, row b)]
def uAA : List (Nat × Sure) := [(40, .sure), (42, .sure), (109, .sure), (111, .sure)]
def uAE : List (Nat × Sure) := [(40, .int 0), (42, .sure), (111, .sure)]
/-! all is given away -/
theorem okRR : runA [] [(20, false), (24, false), (103, true)] uAA (argsRR s z w n m) (rowsRR n m a b) = some (.bool true, logOf [big n false, big m false, (true, K1 s z w n a, true), (true, fx s z && true && A1c n a, true), (true, fx s z && true && A2c n m a b, true),
    (true, K2 s z w n m a b, true), (true, K3 s z w n m a b, true), (true, iEq (vA s z w n m a b) (uB s z w n m a b), true), (true, A3c s z w n a, true), (true, A4c s z w n m a b, true), (true, K5 s z w n m a b, true)] []) := by
  kernel_rfl
theorem okRE (k : Bool) : runA [] [(20, false), (103, true)] uAA (argsRE s z w n k) [(n, row a)] = some (.bool true, logOf [big n false, (true, K1 s z w n a, true), (true, fx s z && true && A1c n a, true), (true, fx s z && true && A2c n 0 a b, true),
    (true, K2 s z w n 0 a b, true), (true, iEq (vA s z w n 0 a b) (uB s z w n 0 a b), true), (true, A3c s z w n a, true), (true, A4c s z w n 0 a b, true), (true, K5 s z w n 0 a b, true)] []) := by
  cases k <;> kernel_rfl
theorem okER (k : Bool) : runA [] [(24, false), (103, true)] uAE (argsER s z w m k) [(m, row b)] = some (.bool true, logOf [big m false, (true, fx s z && true && true, true), (true, fx s z && true && A1c m b, true),
    (true, K2 s z w 0 m a b, true), (true, K3 s z w 0 m a b, true), (true, iEq (vA s z w 0 m a b) (uB s z w 0 m a b), true), (true, A3m s z w m a b, true), (true, K5 s z w 0 m a b, true)] []) := by
  cases k <;> kernel_rfl
theorem okEE (k k' : Bool) : runA [] [(103, true)] [(40, .int 0), (42, .int 0)] (argsEE s z w k k') [] = some (.bool true, logOf [(true, fx s z && true && true, true), (true, fx s z && true && true, true), (true, K2 s z w 0 0 a b, true), (true, iEq (vA s z w 0 0 a b) (uB s z w 0 0 a b), true), (true, K5 s z w 0 0 a b, true)] []) := by
  cases k <;> cases k' <;> kernel_rfl
/-! the first list is not -/
theorem noRR (j : Nat) : runA [(9, .no j), (14, .no j)] [(20, false), (24, false), (49, true), (54, true), (58, true)] uAA (argsRR s z w n m) (rowsRR n m a b) = some (.bool true, logOf [big n false, big m false, (true, K1n s z w n a j, true), (true, fx s z && true && A1c n a, true), (true, fx s z && true && A2c n m a b, true),
    (true, K2n s z w n m a b j, true), (true, !iEq (pe' s z w (iA (rA a)) j) 0, true), (true, iEq (pe' s z w (iA (rc n m a b)) j) (pe' s z w (iA (rA a)) j), true), (true, iEq w w, true)] []) := by
  kernel_rfl
theorem noRE (k : Bool) (j : Nat) : runA [(9, .no j), (14, .no j)] [(20, false), (49, true), (54, true), (58, true)] uAA (argsRE s z w n k) [(n, row a)] = some (.bool true, logOf [big n false, (true, K1n s z w n a j, true), (true, fx s z && true && A1c n a, true), (true, fx s z && true && A2c n 0 a b, true),
    (true, K2n s z w n 0 a b j, true), (true, !iEq (pe' s z w (iA (rA a)) j) 0, true), (true, iEq (pe' s z w (iA (rc n 0 a b)) j) (pe' s z w (iA (rA a)) j), true), (true, iEq w w, true)] []) := by
  cases k <;> kernel_rfl
/-! the second is not -/
theorem nxRR (j : Nat) : runA [(14, .no (n + j)), (16, .no j)] [(20, false), (24, false), (78, true), (83, true), (87, true), (92, true)] uAA (argsRR s z w n m) (rowsRR n m a b) = some (.bool true, logOf [big n false, big m false, (true, K1 s z w n a, true), (true, fx s z && true && A1c n a, true), (true, fx s z && true && A2c n m a b, true),
    (true, K2n s z w n m a b (n + j), true), (true, K3n s z w n m a b j, true), (true, !iEq (pe' s z (wA s z w n a) (iA (rA b)) j) 0, true), (true, iEq (pe' s z w (iA (rc n m a b)) (n + j)) (pe' s z (wA s z w n a) (iA (rA b)) j), true), (true, iEq w w, true), (true, iEq (wA s z w n a) (wA s z w n a), true)] []) := by
  kernel_rfl
theorem nxER (k : Bool) (j : Nat) : runA [(13, .no (0 + j)), (15, .no j)] [(24, false), (78, true), (83, true), (87, true), (92, true)] uAE (argsER s z w m k) [(m, row b)] = some (.bool true, logOf [big m false, (true, fx s z && true && true, true), (true, fx s z && true && A1c m b, true),
    (true, K2n s z w 0 m a b (0 + j), true), (true, K3n s z w 0 m a b j, true), (true, !iEq (pe' s z (wA s z w 0 a) (iA (rA b)) j) 0, true), (true, iEq (pe' s z w (iA (rc 0 m a b)) (0 + j)) (pe' s z (wA s z w 0 a) (iA (rA b)) j), true), (true, iEq w w, true), (true, iEq (wA s z w 0 a) (wA s z w 0 a), true)] []) := by
  cases k <;> kernel_rfl
/-! more than is asked for -/
theorem b1RR : runA [] [(20, true)] [] (argsRR s z w n m) (rowsRR n m a b) = some (.bool true, logOf [big n true] []) := by kernel_rfl
theorem b2RR : runA [] [(20, false), (24, true)] [] (argsRR s z w n m) (rowsRR n m a b) = some (.bool true, logOf [big n false, big m true] []) := by kernel_rfl
theorem b1RE (k : Bool) : runA [] [(20, true)] [] (argsRE s z w n k) [(n, row a)] = some (.bool true, logOf [big n true] []) := by cases k <;> kernel_rfl
theorem b2ER (k : Bool) : runA [] [(24, true)] [] (argsER s z w m k) [(m, row b)] = some (.bool true, logOf [big m true] []) := by cases k <;> kernel_rfl
end
end
end Go.Proofs.Ytkbfhpahjloidaa
