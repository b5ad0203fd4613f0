/- Own text of this claim: an abstract machine over the given program form, and what follows from it. No condition. -/
import Derived.Test.YtkbfhpahjloidaaC3
set_option linter.unusedVariables false
namespace Go.Proofs.Ytkbfhpahjloidaa
open Go Go.EV
theorem run7 (s z s' z' s2 z2 : Int) (a b m d : Bool) : runV Try.prog S3 7 [ext s z, ext s' z', ext s2 z2] (tell 7 [(13, false), (17, a), (21, b), (27, false), (32, a), (37, false), (41, m), (46, false), (57, true), (62, !a), (67, !d), (72, true)]) 10 =
    some (.bool true, logOf [(true, !(meetC s z s' z' == meetC s' z' s z), false), (true, inside s z s' z', a), (a, inside s' z' s2 z2, b), (a && b, !inside s z s2 z2, false),
      (true, inside s z s' z', a), (a, !meetC s z s' z', false), (a, meetC s z s2 z2, m), (a && m, !meetC s' z' s2 z2, false),
      (true, ((bif bad s z then (2 : Int) else 0) == 0) == inside s z s z, true), (true, !inside s z s' z', !a), (a, !inside s' z' s z, !d), (a && d, (s == s') && ((z == z') && true), true)] []) := by
  cases a <;> cases b <;> cases m <;> cases d <;> kernel_rfl
end Go.Proofs.Ytkbfhpahjloidaa
