/- Own text of this claim: an abstract machine over the given program form, and what follows from it. No condition. -/
import Derived.Test.YtkbfhpahjloidaaEvFin
import Derived.IntWalk
import Derived.Test.YtkbfhpahjloidaaProg
set_option linter.unusedVariables false
namespace Go.Proofs.Ytkbfhpahjloidaa
open Go Go.EV
noncomputable section
abbrev i (n : Int) : AV := .int .i64 n
theorem no_num : (Try.prog.funcs.toList.all fun fn => !(fn.name == "runtime.NumGoroutine")) = true := by kernel_rfl
theorem mixed : Try.prog.follows .mixedOrders = true := by kernel_rfl
theorem G0 : GoodU Try.prog noU := GoodU.none no_num mixed
end
end Go.Proofs.Ytkbfhpahjloidaa
