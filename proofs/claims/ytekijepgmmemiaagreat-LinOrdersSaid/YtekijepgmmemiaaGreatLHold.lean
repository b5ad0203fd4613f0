/- LinOrders: for every history and list of numbers the law returns true, and its arguments read as before. No condition. -/
import Derived.Test.YtekijepgmmemiaaGreatLRow
import Derived.Test.YtekijepgmmemiaaGreatRows
set_option linter.unusedVariables false
namespace Go.Proofs.YtekijepgmmemiaaGreat
open Go Go.EV Go.Gar Go.ChangeShapes Go.WideShapes Go.ChangeAt Go.RowKit Go.Joins Go.Deep
theorem fact_inPlace : (Rows.linOrdersRow.inPlace == Tryz.pinned.checked.prog.inPlace 3) = true := by kernel_rfl
theorem fact_unfollowed : (Rows.linOrdersRow.unfollowed == Tryz.pinned.checked.prog.unfollowed 3) = true := by kernel_rfl
theorem fact_recurses : (Rows.linOrdersRow.recurses == Tryz.pinned.checked.prog.recurses 3) = true := by kernel_rfl
theorem fact_named : (Rows.linOrdersRow.named == Tryz.pinned.checked.prog.varsNamed 3) = true := by kernel_rfl
theorem fact_plain : (Rows.linOrdersRow.plainKeys == Tryz.pinned.checked.prog.plainKeys) = true := by kernel_rfl
theorem fact_heard : Tryz.pinned.checked.prog.stopsHeard = true := by kernel_rfl
theorem fact_may : Tryz.pinned.checked.prog.mayEnter = true := by kernel_rfl
theorem fact_lifted : (Rows.linOrdersRow.lifted == Tryz.pinned.checked.prog.liftsFinal) = true := by kernel_rfl
theorem fact_make : (Tryz.pinned.checked.prog.make == some Rows.linOrdersRow.make) = true := by kernel_rfl
theorem fact_laid : laidOutB Tryz.pinned.checked.prog = true := by kernel_rfl
theorem fact_rowed : mapsRowed Tryz.pinned.checked.prog = true := by kernel_rfl
theorem fact_stops : (Tryz.pinned.checked.prog.stops == []) = true := by kernel_rfl
theorem fact_knobs : (Tryz.pinned.checked.prog.stopKnobs == []) = true := by kernel_rfl
theorem facts : joinedFacts Tryz.pinned.checked.prog 3 Tryz.f3 Rows.linOrdersSpec Rows.linOrdersRow = true := by
  unfold joinedFacts
  simp only [Bool.and_eq_true]
  repeat' apply And.intro
  all_goals first
    | with_reducible exact fact_inPlace
    | with_reducible exact fact_unfollowed
    | with_reducible exact fact_recurses
    | with_reducible exact fact_named
    | with_reducible exact fact_plain
    | with_reducible exact fact_heard
    | with_reducible exact fact_may
    | with_reducible exact fact_lifted
    | with_reducible exact fact_make
    | with_reducible exact fact_laid
    | with_reducible exact fact_rowed
    | with_reducible exact fact_stops
    | with_reducible exact fact_knobs
    | kernel_rfl
theorem wrapped : Tryz.f3.isWrapper Tryz.pinned.checked.prog Rows.linOrdersRow.wrapper Rows.linOrdersRow.mainSum := by
  unfold Func.isWrapper
  first | (rw [if_pos (by decide +kernel)]; kernel_rfl) | (rw [if_neg (by decide +kernel)]; exact ⟨rfl, rfl⟩)
theorem instanced : Tryz.f3.isInstance Tryz.pinned.checked.prog Rows.linOrdersRow.origin Rows.linOrdersRow.targs := of_decide_eq_true (by kernel_rfl)
theorem called : Tryz.pinned.checked.prog.funcNamed Rows.linOrdersRow.func = some 3 := by kernel_rfl

theorem orders_holds : Rows.LinOrdersSaid :=
  OpenClaim.holds_of_wide 3 Tryz.f3 rfl rfl rfl rfl rfl rfl rfl ⟨rfl, rfl, rfl, rfl, rfl⟩ rfl rfl rfl rfl rfl called Tryz.func3 facts instanced wrapped
    (fun os started H enc _ => orders_lifted os started H enc)
#print axioms orders_holds
end Go.Proofs.YtekijepgmmemiaaGreat
