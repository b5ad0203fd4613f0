/- Own text of this claim: an abstract machine over the given program form, and what follows from it. No condition. -/
import Derived.Test.YtkbfhpahjloidaaK9
set_option linter.unusedVariables false
set_option linter.unusedSimpArgs false
namespace Go.Proofs.Ytkbfhpahjloidaa
open Go Go.EV
noncomputable section
/-! Same: two lists whose cells are alike -/
def exS : Option AM := startA Try.prog 25 [.sl 0 0 2 none 2, .sl 1 0 2 none 2] (roHeap [(4, row fun _ => 4), (4, row fun _ => 4)]) noHint
def tS : List AItem := todoAt Try.prog S3 5 exS
section
variable (n : Nat) (c : Nat → Int)
def HS (j : Nat) (b : Bool) : AM :=
  ⟨⟨25, ⟨none, []⟩, 26, setT [(0, .sl 0 0 n none 2), (1, .sl 1 0 n none 2), (5, N j), (14, .bool b)], tS⟩, [], roHeap [(n * 2, row c), (n * 2, row c)], ⟨noHint, noSure⟩, []⟩
def stS : Option AM := startA Try.prog 25 [.sl 0 0 n none 2, .sl 1 0 n none 2] (roHeap [(n * 2, row c), (n * 2, row c)]) noHint
def sS : List Nat := [0, 1, 5, 14]
theorem Sm1 (b : Bool) : oCase none (fun m => segX Try.prog S3 5 (withH (hints (tell 25 [(10, false), (14, b)]) 25 []) m) sS) (stS n c) =
    some (HS n c 0 b, logOf [(true, !iEq (Int.ofNat n) (Int.ofNat n), false), (true, iLt (Int.ofNat 0) (Int.ofNat n), b)] []) := by
  kernel_rfl
def eS (j : Nat) : Bool := !((c (0 + j * 2) == c (0 + j * 2)) && ((c (0 + j * 2 + 1) == c (0 + j * 2 + 1)) && true))
def chS (j : Nat) : List (Bool × Bool × Bool) := [(true, Nat.blt j n, true), (true, Nat.ble (0 + j * 2 + 2) (n * 2), true), (true, Nat.blt j n, true), (true, Nat.ble (0 + j * 2 + 2) (n * 2), true)]
theorem Sm2 (j : Nat) (b : Bool) : segX Try.prog S3 6 (withH (hints (tell 25 [(25, false), (14, b)]) 25 [(19, .sure), (20, .sure), (23, .sure), (24, .sure), (16, .int (Int.ofNat (j + 1)))]) (HS n c j true)) sS =
    some (HS n c (j + 1) b, logOf (chS n j ++ [(true, eS c j, false), (true, iEq (W (Int.ofNat j + 1)) (Int.ofNat (j + 1)), true), (true, iLt (Int.ofNat (j + 1)) (Int.ofNat n), b)]) []) := by
  kernel_rfl
theorem Sm4 (j : Nat) : lastX Try.prog S3 3 (withH (hints noHint 25 []) (HS n c j false)) =
    some (.bool true, roHeap [(n * 2, row c), (n * 2, row c)], logOf [] []) := by
  kernel_rfl
end
section
variable {n : Nat} {c : Nat → Int}
theorem same_ends (hn : n ≤ 900) : ∀ (d j : Nat), j + d = n → EV.Ends Try.prog S3 (HS n c j (iLt (Int.ofNat j) (Int.ofNat n))) (.bool true)
  | 0, j, e => by
    obtain rfl : j = n := by omega
    rw [lt_nat, decide_eq_false (by omega)]
    exact EV.Ends.last (Sm4 j c j) (by simp)
  | d + 1, j, e => by
    have hj : j < n := by omega
    rw [lt_nat, decide_eq_true hj]
    refine EV.Ends.seg G3 (Sm2 n c j (iLt (Int.ofNat (j + 1)) (Int.ofNat n))) ?_ (same_ends hn d (j + 1) (by omega))
    intro e he _
    simp only [List.mem_append, List.mem_cons, List.not_mem_nil, or_false, chS] at he
    rcases he with (rfl | rfl | rfl | rfl) | rfl | rfl | rfl
    · exact blt_of hj
    · exact ble_of (by omega)
    · exact blt_of hj
    · exact ble_of (by omega)
    · show eS c j = false
      simp [eS]
    · exact next_of (by omega)
    · rfl
theorem same_read (hn : n ≤ 900) : ReadCall Try.prog 25 [(n * 2, row c), (n * 2, row c)] [.sl 0 0 n none 2, .sl 1 0 n none 2] (.bool true) := by
  have hs := Sm1 n c (iLt (Int.ofNat 0) (Int.ofNat n))
  unfold oCase at hs
  cases hst : stS n c with
  | none => rw [hst] at hs; cases hs
  | some m =>
    rw [hst] at hs
    refine read_of_ends G3 hst (EV.Ends.seg G3 hs ?_ (same_ends hn n 0 (by omega))) rfl
    intro e he _
    simp only [List.mem_cons, List.not_mem_nil, or_false] at he
    rcases he with rfl | rfl
    · show (!iEq _ _) = false
      rw [iEq_eq]; simp
    · rfl
end
end
end Go.Proofs.Ytkbfhpahjloidaa
