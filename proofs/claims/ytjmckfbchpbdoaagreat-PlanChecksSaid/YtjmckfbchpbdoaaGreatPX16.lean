/- Own text of this claim: an abstract machine over the given program form, and what follows from it. No condition. -/
import Derived.Test.YtjmckfbchpbdoaaGreatPX15
set_option linter.unusedVariables false
set_option linter.unusedSimpArgs false
namespace Go.Proofs.YtjmckfbchpbdoaaGreat
open Go Go.EV
noncomputable section
def F4 : List AV → Option (T AV) := oneF [] (.bool true)
def UL : USum := addV (addV (addV (addV noU 5 F5) 7 F7) 9 F9) 4 F4
theorem GL : GoodU Tryz.prog UL := (((G0.addV c5).addV c7).addV c9).addV (.one cLive)
section
variable (k c n r f m k' ri ba ty si va a b : Int) (nn : Nat) (p q : Nat → Int)
theorem t3 : symF Tryz.prog UL (hy [(3, [8,11,15])] [] [] []) 500 (stt Tryz.prog 3 [want k c n r f m k' ri ba ty si va a b, prs nn p q]) =
  .br (decide ((nn : Int) > 40)) (.leaf (.fin (.bool true)))
    (.br (isW k c n r f m)
      (.br ((bif isW k c n r f m then (0 : Int) else 2) == 0) (.leaf (.fin (.bool true))) (.leaf (.fin (.bool false))))
      (.br ((bif isW k c n r f m then (0 : Int) else 2) == 0) (.leaf (.fin (.bool false)))
        (.ck (isW k c n r f m = false ∧ nn ≤ 100000 ∧ ∀ j, j < nn → [i (p j), i (q j)] = [i (p j), i (q j)]) (.leaf (.fin (.bool true)))))) := by kernel_rfl
theorem c3 : FnCall Tryz.prog 3 [want k c n r f m k' ri ba ty si va a b, prs nn p q] (.bool true) := by
  refine fn_of_fin GL (by kernel_rfl) (t3 k c n r f m k' ri ba ty si va a b nn p q) ⟨fun _ => rfl, fun h => ⟨fun h1 => ?_, fun h1 => ?_⟩⟩
  · rw [h1]; exact ⟨fun _ => rfl, fun h => by simp at h⟩
  · rw [h1]
    simp only [decide_eq_false_iff_not] at h
    exact ⟨fun h => by simp at h, fun _ => ⟨⟨rfl, by omega, fun _ _ => rfl⟩, rfl⟩⟩
end
end
end Go.Proofs.YtjmckfbchpbdoaaGreat
