/- Own text of this claim: an abstract machine over the given program form, and what follows from it. No condition. -/
import Derived.Test.YtjmckfbchpbdoaaGreatPX12
import Derived.Test.YtjmckfbchpbdoaaGreatPX13
import Derived.Test.YtjmckfbchpbdoaaGreatPX14
set_option linter.unusedVariables false
set_option linter.unusedSimpArgs false
namespace Go.Proofs.YtjmckfbchpbdoaaGreat
open Go Go.EV
noncomputable section
def F9w : List AV → Option (T AV) := orF (oneF [wV, .nilsl] (pl 17)) (orF (oneF [wV, knV [17] false] (pl 21)) (orF (oneF [wV, knV [17, 21] false] (pl 29)) (orF (oneF [wV, knV [17, 21, 29] false] (pl 73)) (orF (oneF [wV, knV [17, 21, 29, 73] false] (pl 68)) (orF (oneF [wV, knV [17, 21, 29, 73, 68] false] (pl 69)) (orF (oneF [wV, knV [17, 21, 29, 73, 68, 69] false] (pl 194)) (orF (oneF [wV, knV [17, 21, 29, 73, 68, 69, 194] false] (pl 67)) (orF (oneF [wV, knV [17, 21, 29, 73, 68, 69, 194, 67] false] (pl 19)) (orF (oneF [wV, knV [17, 21, 29, 73, 68, 69, 194, 67, 19] false] (pl 20)) (oneF [wV, knV [17, 21, 29, 73, 68, 69, 194, 67, 19, 20] false] (pl 3)))))))))))
theorem c9w : FnSpec Tryz.prog 9 F9w := .or (.one mk_0) (.or (.one mk_1) (.or (.one mk_2) (.or (.one mk_3) (.or (.one mk_4) (.or (.one mk_5) (.or (.one mk_6) (.or (.one mk_7) (.or (.one mk_8) (.or (.one mk_9) (.one mk_10))))))))))
def UD : USum := addV UC 9 F9w
theorem GD : GoodU Tryz.prog UD := GC.addV c9w
theorem cWhole : FnCall Tryz.prog 13 [wV, lV] (.tup [planV, knV [17, 21, 29, 73, 68, 69, 194, 67, 19, 20, 3] false, .bool true]) := fn_of_chk GD (y := yN) (n := 60000) (by kernel_rfl) (by kernel_rfl)
theorem mk_no : FnCall Tryz.prog 9 [want 0 0 0 0 0 0 0 0 0 0 0 0 0 0, .nilsl] plan0 := fn_of_chk G0 (y := yN) (n := 4000) (by kernel_rfl) (by kernel_rfl)
def UE : USum := addV (addV (addV (addV (addV noU 9 (orF (oneF [wV, .nilsl] (pl 17)) (oneF [want 0 0 0 0 0 0 0 0 0 0 0 0 0 0, .nilsl] plan0))) 10 (oneF [i 1, i 5, i 1024, i 1] (.tup [sV, i 0]))) 11 (oneF [sV] (.tup [lV, i 0]))) 12 (oneF [sV, i 0, i 0, callV] wV)) 13 (oneF [wV, lV] (.tup [planV, knV [17, 21, 29, 73, 68, 69, 194, 67, 19, 20, 3] false, .bool true]))
theorem GE : GoodU Tryz.prog UE := ((((G0.addV (.or (.one mk_0) (.one mk_no))).addV (.one cNew)).addV (.one cEnc)).addV (.one cWant)).addV (.one cWhole)
theorem cLive : FnCall Tryz.prog 4 [] (.bool true) := fn_of_chk GE (y := yN) (n := 4000) (by kernel_rfl) (by kernel_rfl)
end
end Go.Proofs.YtjmckfbchpbdoaaGreat
