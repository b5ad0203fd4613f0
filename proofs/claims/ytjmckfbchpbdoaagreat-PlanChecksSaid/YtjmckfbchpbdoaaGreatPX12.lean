/- Own text of this claim: an abstract machine over the given program form, and what follows from it. No condition. -/
import Derived.Test.YtjmckfbchpbdoaaGreatPX11
set_option linter.unusedVariables false
set_option linter.unusedSimpArgs false
namespace Go.Proofs.YtjmckfbchpbdoaaGreat
open Go Go.EV
noncomputable section
theorem mk_0 : FnCall Tryz.prog 9 [wV, .nilsl] (pl 17) := fn_of_chk GC (y := yN) (n := 40000) (by kernel_rfl) (by kernel_rfl)
theorem mk_1 : FnCall Tryz.prog 9 [wV, knV [17] false] (pl 21) := fn_of_chk GC (y := yN) (n := 40000) (by kernel_rfl) (by kernel_rfl)
theorem mk_2 : FnCall Tryz.prog 9 [wV, knV [17, 21] false] (pl 29) := fn_of_chk GC (y := yN) (n := 40000) (by kernel_rfl) (by kernel_rfl)
theorem mk_3 : FnCall Tryz.prog 9 [wV, knV [17, 21, 29] false] (pl 73) := fn_of_chk GC (y := yN) (n := 40000) (by kernel_rfl) (by kernel_rfl)
theorem mk_4 : FnCall Tryz.prog 9 [wV, knV [17, 21, 29, 73] false] (pl 68) := fn_of_chk GC (y := yN) (n := 40000) (by kernel_rfl) (by kernel_rfl)
theorem mk_5 : FnCall Tryz.prog 9 [wV, knV [17, 21, 29, 73, 68] false] (pl 69) := fn_of_chk GC (y := yN) (n := 40000) (by kernel_rfl) (by kernel_rfl)
theorem mk_6 : FnCall Tryz.prog 9 [wV, knV [17, 21, 29, 73, 68, 69] false] (pl 194) := fn_of_chk GC (y := yN) (n := 40000) (by kernel_rfl) (by kernel_rfl)
end
end Go.Proofs.YtjmckfbchpbdoaaGreat
