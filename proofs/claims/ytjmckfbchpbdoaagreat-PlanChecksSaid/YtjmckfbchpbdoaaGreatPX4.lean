/- Own text of this claim: an abstract machine over the given program form, and what follows from it. No condition. -/
import Derived.Test.YtjmckfbchpbdoaaGreatPX3
set_option linter.unusedVariables false
set_option linter.unusedSimpArgs false
namespace Go.Proofs.YtjmckfbchpbdoaaGreat
open Go Go.EV
noncomputable section
/-! a state, as `live` makes it -/
def sV : AV := .agg [.ls (5) (chunkE 8 [i 2, i 0, i 3, i 0, i 0, i 0, i (-1), i 0, i 1, i 0, i 1, i 0, i 1024, i 0, i (-1), i 0, i 4, i 0, i 1, i 0, i 0, i 0, i (-1), i 0, i 0, i 0, i 0, i 0, i 0, i 0, i (-1), i 0, i 0, i 0, i 0, i 0, i 0, i 0, i (-1), i 0]) 8 (false), .ls (1) (chunkE 1 [.ls (2) (chunkE 1 [i 3, i 4]) 1 (false)]) 1 (false), .ls (5) (chunkE 1 [.ls (8) (chunkE 5 [i 1, i 15, i 0, i 1, i 0, i 4, i 15, i 0, i 2, i 0, i 0, i 0, i 0, i 0, i 0, i 0, i 0, i 0, i 0, i 0, i 0, i 0, i 0, i 0, i 0, i 0, i 0, i 0, i 0, i 0, i 0, i 0, i 0, i 0, i 0, i 0, i 0, i 0, i 0, i 0]) 5 (true), .nilsl, .nilsl, .nilsl, .nilsl]) 1 (false), .ls (2) (chunkE 4 [i 0, i 0, i 0, .bool (false), i 0, i 1, i 0, .bool (false)]) 4 (false), .ls (5) (chunkE 3 [i 0, i 0, .nilsl, i 0, i 0, .nilsl, i 0, i 0, .nilsl, i 0, i 0, .nilsl, i 0, i 0, .nilsl]) 3 (false), .ls (1) (chunkE 1 [.nilsl]) 1 (false), .ls (1) (chunkE 1 [i 0]) 1 (false), .ls (1) (chunkE 4 [.bool (false), i 0, i 0, .bool (false)]) 4 (false)]
theorem cNew : FnCall Tryz.prog 10 [i 1, i 5, i 1024, i 1] (.tup [sV, i 0]) := fn_of_chk G0 (y := hy [] [] [] []) (n := 6000) (by kernel_rfl) (by kernel_rfl)
end
end Go.Proofs.YtjmckfbchpbdoaaGreat
