/- Own text of this claim: an abstract machine over the given program form, and what follows from it. No condition. -/
import Derived.Test.YtjmckfbchpbdoaaGreatPX6
set_option linter.unusedVariables false
set_option linter.unusedSimpArgs false
namespace Go.Proofs.YtjmckfbchpbdoaaGreat
open Go Go.EV
noncomputable section
/-! the state's cells -/
def look (n : Nat) : List (Nat × Int) → Int
  | [] => 0
  | (k, v) :: r => bif Nat.beq n k then v else look n r
def tbl : List (Nat × Int) := [(1, 2), (3, 3), (17, 16777457), (19, 2), (23, 33554676), (24, 1), (65, 1), (67, 1), (69, 1024), (129, 4), (131, 1)]
def lV : AV := .ls 4096 (fun j => [i (look j tbl)]) 1 true
theorem cEnc : FnCall Tryz.prog 11 [sV] (.tup [lV, i 0]) := fn_of_chk G5 (y := hy [] [] [] [(11,[21])]) (n := 20000) (by kernel_rfl) (by kernel_rfl)
end
end Go.Proofs.YtjmckfbchpbdoaaGreat
