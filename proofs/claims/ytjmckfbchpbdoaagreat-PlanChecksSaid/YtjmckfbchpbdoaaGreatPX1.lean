/- Own text of this claim: an abstract machine over the given program form, and what follows from it. No condition. -/
import Derived.Test.YtjmckfbchpbdoaaGreatEvQ
import Derived.IntWalk
import Derived.Test.YtjmckfbchpbdoaaGreatProg
set_option linter.unusedVariables false
namespace Go.Proofs.YtjmckfbchpbdoaaGreat
open Go Go.EV
noncomputable section
abbrev i (n : Int) : AV := .int .i64 n
theorem no_num : (Tryz.prog.funcs.toList.all fun fn => !(fn.name == "runtime.NumGoroutine")) = true := by kernel_rfl
theorem mixed : Tryz.prog.follows .mixedOrders = true := by kernel_rfl
theorem G0 : GoodU Tryz.prog noU := GoodU.none no_num mixed
end
end Go.Proofs.YtjmckfbchpbdoaaGreat
