/- Own text of this claim: an abstract machine over the given program form, and what follows from it. No condition. -/
import Derived.Test.YtggpbcgkjalepaaD4
import Derived.Test.YtggpbcgkjalepaaRows
import Derived.Lib.SmallJoins
set_option linter.unusedVariables false
set_option linter.unusedSimpArgs false
namespace Go.Proofs.Ytggpbcgkjalepaa
open Go Go.EV Go.ChangeShapes Go.WideShapes Go.ChangeAt Go.RowKit Go.Joins Go.Deep

theorem own : ownKnob Try.prog.godebug = none := by kernel_rfl
theorem laid : laidOutB Try.prog = true := by kernel_rfl
theorem under23 : ∃ f0 f1, Try.prog.underlying 23 = some (.struct #[f0, f1]) ∧ oneCellFields Try.prog #[f0, f1] = true ∧ Try.prog.underlying f0.type = some (.int .i64) ∧ Try.prog.underlying f1.type = some (.int .i64) :=
  ⟨_, _, Try.underlying23, by kernel_rfl, by kernel_rfl, by kernel_rfl⟩

set_option maxRecDepth 100000 in
/-- a key that comes in: two numbers -/
theorem open_ext {H : Type} {enc : TypeId × Value → H} {W : World} {base : Nat} {sp : Nat → Bool} {held : Bool} {r : Reach} {b0 : Nat} {v : Value} {d : DataW H} {p : List MemPlace}
    (hv : Value.okWide Try.prog W r b0 23 v) (h : DataW.Trod enc Try.prog W base sp held 23 v d p) : ∃ s z, v = .agg #[.int .i64 s, .int .i64 z] := by
  obtain ⟨f0, f1, h1, h2, h3, h4⟩ := under23
  obtain ⟨v0, v1, y0, y1, m, rfl, rfl, rfl, hy0, hy1⟩ := open_agg2 h1 h2 (by kernel_rfl) hv h
  obtain ⟨s, hs, _⟩ := DataW.trod_int h3 hy0
  obtain ⟨z, hz, _⟩ := DataW.trod_int h4 hy1
  simp only [List.cons.injEq, and_true] at hs hz
  exact ⟨s, z, by rw [hs, hz]⟩

theorem vr_ext (ρ : Rho) (s z : Int) : VR ρ (key s z) (.agg #[.int .i64 s, .int .i64 z]) := by
  simp only [VR, VRs]
  exact ⟨_, rfl, _, _, rfl, rfl, _, _, rfl, rfl, rfl⟩

theorem vr_int (ρ : Rho) (n : Int) : VR ρ (i n) (.int .i64 n) := by simp only [VR]
end Go.Proofs.Ytggpbcgkjalepaa
