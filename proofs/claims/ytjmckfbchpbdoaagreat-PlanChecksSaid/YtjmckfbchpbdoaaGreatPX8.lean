/- Own text of this claim: an abstract machine over the given program form, and what follows from it. No condition. -/
import Derived.Test.YtjmckfbchpbdoaaGreatPX7
set_option linter.unusedVariables false
set_option linter.unusedSimpArgs false
namespace Go.Proofs.YtjmckfbchpbdoaaGreat
open Go Go.EV
noncomputable section
def callV : AV := .agg [i 5, u 1, u 129, i 0, i 0, i 3, i 0, i 0]
def wV : AV := want 0 0 1 0 3 8 5 0 0 3 0 0 1 129
theorem cWant : FnCall Tryz.prog 12 [sV, i 0, i 0, callV] wV := fn_of_chk G0 (y := yN) (n := 1000) (by kernel_rfl) (by kernel_rfl)
/-- cells that are known, each with what it has -/
def knV (l : List Nat) (full : Bool) : AV := .ls l.length (fun j => [i (l.getD j 0 : Nat), i (look (l.getD j 0) tbl)]) 2 full
end
end Go.Proofs.YtjmckfbchpbdoaaGreat
