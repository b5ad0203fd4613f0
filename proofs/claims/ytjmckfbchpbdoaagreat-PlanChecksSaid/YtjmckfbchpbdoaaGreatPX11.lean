/- Own text of this claim: an abstract machine over the given program form, and what follows from it. No condition. -/
import Derived.Test.YtjmckfbchpbdoaaGreatPX10
set_option linter.unusedVariables false
set_option linter.unusedSimpArgs false
namespace Go.Proofs.YtjmckfbchpbdoaaGreat
open Go Go.EV
noncomputable section
/-- a plan that has to know a cell -/
def pl (c : Int) : AV := .agg [i c, .nilsl, .nilsl, i (-1), .nilsl]
/-- the plan, when all is known -/
def planV : AV := .agg [i (-1), .ls (23) (chunkE 2 [i 195, i 1, i 196, i 0, i 197, i 16, i 198, i 0, i 199, i 2, i 200, i 0, i 201, i 0, i 202, i 0, i 203, i 0, i 204, i 0, i 205, i 0, i 193, i 3, i 70, i 16, i 73, i 1, i 67, i 2, i 29, i 50331891, i 30, i 1, i 31, i 2, i 32, i 1, i 33, i 0, i 24, i 3, i 19, i 3, i 3, i 4]) 2 (false), .ls (1) (chunkE 5 [i 0, i 0, i 0, i 0, .bool (false)]) 5 (false), i 3, .nilsl]
end
end Go.Proofs.YtjmckfbchpbdoaaGreat
