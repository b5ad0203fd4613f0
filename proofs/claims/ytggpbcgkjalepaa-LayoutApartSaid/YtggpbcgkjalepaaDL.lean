/- Own text of this claim: an abstract machine over the given program form, and what follows from it. No condition. -/
import Derived.Test.YtggpbcgkjalepaaD1
namespace Go.Proofs.Ytggpbcgkjalepaa
open Go Go.EV
theorem live_run : liveT Try.prog S3 18 16 = true := by kernel_rfl
theorem live_pure : PureCall Try.prog 18 [] (.bool true) := pure_of_true G3 live_run
end Go.Proofs.Ytggpbcgkjalepaa
