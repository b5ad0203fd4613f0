/- Own text of this claim: an abstract machine over the given program form, and what follows from it. No condition. -/
import Derived.Test.YtkbfhpahjloidaaEvS
import Derived.Test.YtkbfhpahjloidaaProg
set_option linter.unusedVariables false
namespace Go.Proofs.Ytkbfhpahjloidaa
open Go Go.EV
abbrev i (n : Int) : AV := .int .i64 n
abbrev ext (s z : Int) : AV := .agg [i s, i z]
abbrev W (n : Int) : Int := IntKind.i64.wrap n
abbrev sp : Int := 1048576

theorem no_num : (Try.prog.funcs.toList.all fun fn => !(fn.name == "runtime.NumGoroutine")) = true := by kernel_rfl
theorem mixed : Try.prog.follows .mixedOrders = true := by kernel_rfl
theorem G0 : EV.Good Try.prog noSum := good_none no_num mixed

/-! isSize -/
theorem run28 (n : Int) (a b : Bool) : runV Try.prog noSum 28 [i n] (tell 28 [(4, a), (7, b)]) 6 =
    some (.bool (a && b && (W (BitVec.ofInt 64 n &&& BitVec.ofInt 64 (W (n - 1))).toNat == 0)), logOf [(true, decide (n > 0), a), (a, decide (n ≤ sp), b)] []) := by
  cases a <;> cases b <;> kernel_rfl
def isP (n : Int) : Bool := decide (n > 0) && decide (n ≤ sp) && (W (BitVec.ofInt 64 n &&& BitVec.ofInt 64 (W (n - 1))).toNat == 0)
def F28 : List AV → Option AV
  | [.int .i64 n] => some (.bool (isP n))
  | _ => none
theorem c28 : ∀ args v, F28 args = some v → PureCall Try.prog 28 args v := by
  intro args v h
  unfold F28 at h
  split at h
  · simp only [Option.some.injEq] at h; subst h
    exact pure_of_runV G0 (run28 _ _ _) (by simp) rfl rfl
  · cases h

/-! Check -/
theorem run12 (s z : Int) (a b c d : Bool) : runV Try.prog noSum 12 [ext s z] (tell 12 [(5, a), (9, b), (14, c), (22, d)]) 6 =
    some (i (bif a || b || c || d then 2 else 0), logOf [(true, decide (s < 0), a), (!a, decide (z < 1), b), (!a && !b, decide (s > sp), c), (!a && !b && !c, decide (z > W (sp - s)), d)] []) := by
  cases a <;> cases b <;> cases c <;> cases d <;> kernel_rfl
def bad (s z : Int) : Bool := decide (s < 0) || decide (z < 1) || decide (s > sp) || decide (z > W (sp - s))
def F12 : List AV → Option AV
  | [.agg [.int .i64 s, .int .i64 z]] => some (i (bif bad s z then 2 else 0))
  | _ => none
theorem c12 : ∀ args v, F12 args = some v → PureCall Try.prog 12 args v := by
  intro args v h
  unfold F12 at h
  split at h
  · simp only [Option.some.injEq] at h; subst h
    exact pure_of_runV G0 (run12 _ _ _ _ _ _) (by simp) rfl rfl
  · cases h
end Go.Proofs.Ytkbfhpahjloidaa
