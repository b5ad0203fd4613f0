/- Own text of this claim: an abstract machine over the given program form, and what follows from it. No condition. -/
import Derived.Test.YtjmckfbchpbdoaaGreatPX11
set_option linter.unusedVariables false
set_option linter.unusedSimpArgs false
namespace Go.Proofs.YtjmckfbchpbdoaaGreat
open Go Go.EV
noncomputable section
theorem mk_7 : FnCall Tryz.prog 9 [wV, knV [17, 21, 29, 73, 68, 69, 194] false] (pl 67) := fn_of_chk GC (y := yN) (n := 40000) (by kernel_rfl) (by kernel_rfl)
theorem mk_8 : FnCall Tryz.prog 9 [wV, knV [17, 21, 29, 73, 68, 69, 194, 67] false] (pl 19) := fn_of_chk GC (y := yN) (n := 40000) (by kernel_rfl) (by kernel_rfl)
theorem mk_9 : FnCall Tryz.prog 9 [wV, knV [17, 21, 29, 73, 68, 69, 194, 67, 19] false] (pl 20) := fn_of_chk GC (y := yN) (n := 40000) (by kernel_rfl) (by kernel_rfl)
end
end Go.Proofs.YtjmckfbchpbdoaaGreat
