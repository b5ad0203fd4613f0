/- Own text of this claim: an abstract machine over the given program form, and what follows from it. No condition. -/
import Derived.Test.YtjmckfbchpbdoaaGreatPX9
set_option linter.unusedVariables false
set_option linter.unusedSimpArgs false
namespace Go.Proofs.YtjmckfbchpbdoaaGreat
open Go Go.EV
noncomputable section
/-! what `live`'s call needs of words -/
theorem k74a : FnCall Tryz.prog 74 [u 1] (.tup [.ls 1 (chunkE 2 [i 0, i 0]) 2 true, i 0]) := fn_of_chk GB (y := yN) (n := 4000) (by kernel_rfl) (by kernel_rfl)
theorem k74b : FnCall Tryz.prog 74 [u 129] (.tup [.ls 1 (chunkE 2 [i 0, i 2]) 2 true, i 0]) := fn_of_chk GB (y := yN) (n := 4000) (by kernel_rfl) (by kernel_rfl)
theorem k40 : FnCall Tryz.prog 40 [callV] (i 0) := fn_of_chk GB (y := yN) (n := 4000) (by kernel_rfl) (by kernel_rfl)
theorem k76a : FnCall Tryz.prog 76 [u 16777457] (.tup [.agg [i 1, i 15, i 0, i 1, i 0], i 0]) := fn_of_chk GB (y := yN) (n := 4000) (by kernel_rfl) (by kernel_rfl)
theorem k76b : FnCall Tryz.prog 76 [u 0] (.tup [.agg [i 0, i 0, i 0, i 0, i 0], i 0]) := fn_of_chk GB (y := yN) (n := 4000) (by kernel_rfl) (by kernel_rfl)
def F74 : List AV → Option (T AV) := orF (oneF [u 1] (.tup [.ls 1 (chunkE 2 [i 0, i 0]) 2 true, i 0])) (oneF [u 129] (.tup [.ls 1 (chunkE 2 [i 0, i 2]) 2 true, i 0]))
def F76 : List AV → Option (T AV) := orF (oneF [u 16777457] (.tup [.agg [i 1, i 15, i 0, i 1, i 0], i 0])) (oneF [u 0] (.tup [.agg [i 0, i 0, i 0, i 0, i 0], i 0]))
def F40 : List AV → Option (T AV) := oneF [callV] (i 0)
def UC : USum := addV (addV (addV UB 74 F74) 76 F76) 40 F40
theorem GC : GoodU Tryz.prog UC := ((GB.addV (.or (.one k74a) (.one k74b))).addV (.or (.one k76a) (.one k76b))).addV (.one k40)
end
end Go.Proofs.YtjmckfbchpbdoaaGreat
