/- Own text of this claim: an abstract machine over the given program form, and what follows from it. No condition. -/
import Derived.Test.YtkbfhpahjloidaaX1
set_option linter.unusedVariables false
set_option linter.unusedSimpArgs false
namespace Go.Proofs.Ytkbfhpahjloidaa
open Go Go.EV
noncomputable section
abbrev ext (s z : Int) : AV := .agg [i s, i z]
abbrev W (n : Int) : Int := IntKind.i64.wrap n
theorem W_in (n : Int) (h : -9223372036854775808 ≤ n ∧ n < 9223372036854775808) : W n = n := by
  unfold W IntKind.wrap
  simp only [IntKind.signed, IntKind.bits]
  simp only [show ((2 : Int) ^ 64) = 18446744073709551616 by decide, show ((2 : Int) ^ (64 - 1)) = 9223372036854775808 by decide]
  simp
  split <;> omega

/-! numbers -/
def isP (n : Int) : Bool := decide (n > 0) && decide (n ≤ 1048576) && (W (↑(BitVec.ofInt 64 n &&& BitVec.ofInt 64 (W (n - 1))).toNat : Int) == 0)
def F28 : List AV → Option (T AV)
  | [.int .i64 n] => some (.leaf (.bool (isP n)))
  | _ => none
theorem t28 (n : Int) : symF Try.prog noU (hy [(28, [4, 7])] [] [] []) 300 (stt Try.prog 28 [i n]) =
  (.br (decide (n > 0))
    (.br (decide (n ≤ 1048576))
      (.leaf (.fin (.bool (W (↑(BitVec.ofInt 64 n &&& BitVec.ofInt 64 (W (n - 1))).toNat : Int) == 0))))
      (.leaf (.fin (.bool (false)))))
    (.leaf (.fin (.bool (false))))) := by kernel_rfl
theorem c28 : FnSpec Try.prog 28 F28 := by
  intro a t h v hv
  unfold F28 at h
  split at h
  · rename_i n
    simp only [Option.some.injEq] at h; subst h
    have hv : AV.bool (isP n) = v := hv
    subst hv
    refine fn_of_fin G0 (by kernel_rfl) (t28 n) ?_
    unfold isP
    simp only [T.Wp, EndLv]
    refine ⟨fun h1 => ⟨fun h2 => ?_, fun h2 => ?_⟩, fun h1 => ?_⟩
    · rw [h1, h2]; rfl
    · rw [h1, h2]; rfl
    · rw [h1]; rfl
  · cases h
def F11 : List AV → Option (T AV)
  | [.int .u8 n] => some (.leaf (i n))
  | [.int .i64 n] => some (.leaf (i n))
  | _ => none
end
end Go.Proofs.Ytkbfhpahjloidaa
