/- Own text of this claim: an abstract machine over the given program form, and what follows from it. No condition. -/
import Derived.Test.YtkbfhpahjloidaaC7
set_option linter.unusedVariables false
set_option linter.unusedSimpArgs false
namespace Go.Proofs.Ytkbfhpahjloidaa
open Go Go.EV

/-! Tells -/
theorem run3 (k n t s z s' z' : Int) : runV Try.prog S3 3 [i k, i n, i t, ext s z, ext s' z'] (tell 3 [(29, true), (34, true), (43, true), (52, true), (61, true), (70, true)]) 11 =
    some (.bool true, logOf [(true, (sizeOf' (isP n) k n).1 == (sizeOf' (pow n) k n).1, true), (true, (sizeOf' (isP n) k n).2 == (sizeOf' (pow n) k n).2, true),
      (true, ((bif bad s z then (2 : Int) else 0) == 0) == isE s z, true), (true, alignC t n == alignR t n, true), (true, inside s z s' z' == inside s z s' z', true), (true, meetC s z s' z' == meetR s z s' z', true)] []) := by
  kernel_rfl
theorem tells_pure (k n t s z s' z' : Int) : PureCall Try.prog 3 [i k, i n, i t, ext s z, ext s' z'] (.bool true) := by
  refine pure_of_runV G3 (run3 k n t s z s' z') ?_ rfl rfl
  intro e he _
  simp only [List.mem_cons, List.not_mem_nil, or_false] at he
  rcases he with rfl | rfl | rfl | rfl | rfl | rfl
  · simp [isP_pow]
  · simp [isP_pow]
  · simp only [two_eq, isE_bad]; simp
  · simp [align_eq]
  · simp
  · simp [meet_eq]

/-! Aligns -/
theorem run8a (t n k : Int) (a b c : Bool) (h : (a || b || c) = true) : runV Try.prog S3 8 [i t, i n, i k] (tell 8 [(19, a), (22, b), (26, c), (31, true)]) 9 =
    some (.bool true, logOf [(true, (sizeOf' (isP n) 1 n).2 != 0, a), (!a, decide (t < 0), b), (!a && !b, decide (t > sp), c), (true, alignC t n == 0, true)] []) := by
  revert h
  cases a <;> cases b <;> cases c <;> intro h <;> first | exact absurd h (by decide) | kernel_rfl
theorem run8b (t k : Int) (d : Bool) : (powers.map fun p => runV Try.prog S3 8 [i t, i p, i k] (tell 8 [(19, false), (22, false), (26, false), (46, true), (51, true), (56, true), (63, true), (74, true), (79, d), (82, true), (85, true)]) 9) =
    powers.map fun p => some (.bool true, logOf [(true, (sizeOf' (isP p) 1 p).2 != 0, false), (true, decide (t < 0), false), (true, decide (t > sp), false), (true, (sizeOf' (isP p) 1 p).1 == p, true),
      (true, (alignC t p).tmod p == 0, true), (true, decide (alignC t p ≥ t), true), (true, decide (W (alignC t p - t) < p), true), (true, alignC (W (alignC t p - (alignC t p).tmod p)) p == alignC t p, true),
      (true, (sizeOf' (isP p) k p).2 != 0, d), (!d, decide ((sizeOf' (isP p) k p).1 ≥ 1), true), (!d, decide ((sizeOf' (isP p) k p).1 ≤ sp), true)] []) := by
  cases d <;> kernel_rfl
end Go.Proofs.Ytkbfhpahjloidaa
