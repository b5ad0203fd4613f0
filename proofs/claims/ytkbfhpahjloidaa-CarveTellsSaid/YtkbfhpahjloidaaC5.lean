/- Own text of this claim: an abstract machine over the given program form, and what follows from it. No condition. -/
import Derived.Test.YtkbfhpahjloidaaC4
import Derived.Test.YtkbfhpahjloidaaEvR
import Derived.IntWalk
set_option linter.unusedVariables false
set_option linter.unusedSimpArgs false
namespace Go.Proofs.Ytkbfhpahjloidaa
open Go Go.EV

theorem W_in (n : Int) (h : -9223372036854775808 ≤ n ∧ n ≤ 9223372036854775807) : W n = n := IntWalk.i64_in n h
theorem isE_iff (s z : Int) : isE s z = true ↔ 0 ≤ s ∧ s ≤ 1048576 ∧ 1 ≤ z ∧ z ≤ 1048576 - s := by
  unfold isE
  simp only [Bool.and_eq_true, decide_eq_true_eq, sp]
  constructor
  · rintro ⟨⟨⟨h1, h2⟩, h3⟩, h4⟩
    rw [W_in (1048576 - s) (by omega)] at h4
    omega
  · rintro ⟨h1, h2, h3, h4⟩
    rw [W_in (1048576 - s) (by omega)]
    omega
theorem end_eq {s z : Int} (h : isE s z = true) : W (s + z) = s + z := by
  rw [isE_iff] at h
  exact W_in _ (by omega)
theorem inside_iff (s z s' z' : Int) : inside s z s' z' = true ↔ isE s z = true ∧ isE s' z' = true ∧ s' ≤ s ∧ s + z ≤ s' + z' := by
  unfold inside
  simp only [Bool.and_eq_true, decide_eq_true_eq, and_assoc]
  constructor
  · rintro ⟨h1, h2, h3, h4⟩
    rw [end_eq h1, end_eq h2] at h4
    exact ⟨h1, h2, h3, h4⟩
  · rintro ⟨h1, h2, h3, h4⟩
    rw [end_eq h1, end_eq h2]
    exact ⟨h1, h2, h3, h4⟩
theorem meetC_iff (s z s' z' : Int) : meetC s z s' z' = true ↔ isE s z = true ∧ isE s' z' = true ∧ s < s' + z' ∧ s' < s + z := by
  unfold meetC
  simp only [Bool.and_eq_true, decide_eq_true_eq, and_assoc]
  constructor
  · rintro ⟨h1, h2, h3⟩
    rw [end_eq h1, end_eq h2] at h3
    have g1 := (isE_iff _ _).mp h1
    have g2 := (isE_iff _ _).mp h2
    refine ⟨h1, h2, ?_⟩
    unfold mm2 at h3
    simp only at h3
    split at h3 <;> split at h3 <;> omega
  · rintro ⟨h1, h2, h3⟩
    rw [end_eq h1, end_eq h2]
    have g1 := (isE_iff _ _).mp h1
    have g2 := (isE_iff _ _).mp h2
    refine ⟨h1, h2, ?_⟩
    unfold mm2
    simp only
    split <;> split <;> omega
theorem meetR_iff (s z s' z' : Int) : meetR s z s' z' = true ↔ isE s z = true ∧ isE s' z' = true ∧ s < s' + z' ∧ s' < s + z := by
  unfold meetR
  simp only [Bool.and_eq_true, decide_eq_true_eq, and_assoc]
  constructor
  · rintro ⟨h1, h2, h3⟩
    rw [end_eq h1, end_eq h2] at h3
    exact ⟨h1, h2, h3⟩
  · rintro ⟨h1, h2, h3⟩
    rw [end_eq h1, end_eq h2]
    exact ⟨h1, h2, h3⟩
theorem meetC_comm (s z s' z' : Int) : meetC s z s' z' = meetC s' z' s z := by
  rw [Bool.eq_iff_iff, meetC_iff, meetC_iff]
  constructor <;> (rintro ⟨h1, h2, h3, h4⟩; exact ⟨h2, h1, h4, h3⟩)
theorem meet_eq (s z s' z' : Int) : meetC s z s' z' = meetR s z s' z' := by
  rw [Bool.eq_iff_iff, meetC_iff, meetR_iff]

/-- the law: true, for all numbers -/
theorem order_pure (s z s' z' s2 z2 : Int) : PureCall Try.prog 7 [ext s z, ext s' z', ext s2 z2] (.bool true) := by
  refine pure_of_runV G3 (run7 s z s' z' s2 z2 (inside s z s' z') (inside s' z' s2 z2) (meetC s z s2 z2) (inside s' z' s z)) ?_ rfl rfl
  have e1 : meetC s z s' z' = meetC s' z' s z := meetC_comm ..
  have e2 : inside s z s' z' = true → inside s' z' s2 z2 = true → inside s z s2 z2 = true := by
    simp only [inside_iff]
    rintro ⟨h1, h2, h3, h4⟩ ⟨_, h5, h6, h7⟩
    exact ⟨h1, h5, by omega, by omega⟩
  have e3 : inside s z s' z' = true → meetC s z s' z' = true := by
    simp only [inside_iff, meetC_iff]
    rintro ⟨h1, h2, h3, h4⟩
    have g1 := (isE_iff _ _).mp h1
    have g2 := (isE_iff _ _).mp h2
    exact ⟨h1, h2, by omega, by omega⟩
  have e4 : inside s z s' z' = true → meetC s z s2 z2 = true → meetC s' z' s2 z2 = true := by
    simp only [inside_iff, meetC_iff]
    rintro ⟨h1, h2, h3, h4⟩ ⟨_, h5, h6, h7⟩
    exact ⟨h2, h5, by omega, by omega⟩
  have e5 : inside s z s z = isE s z := by
    rw [Bool.eq_iff_iff, inside_iff]
    constructor
    · rintro ⟨h, _⟩; exact h
    · intro h; exact ⟨h, h, by omega, by omega⟩
  have e6 : inside s z s' z' = true → inside s' z' s z = true → s = s' ∧ z = z' := by
    simp only [inside_iff]
    rintro ⟨h1, h2, h3, h4⟩ ⟨_, h5, h6, h7⟩
    omega
  intro e he
  simp only [List.mem_cons, List.not_mem_nil, or_false] at he
  rcases he with rfl | rfl | rfl | rfl | rfl | rfl | rfl | rfl | rfl | rfl | rfl | rfl
  all_goals intro hr
  · simp [e1]
  · rfl
  · rfl
  · simp only [Bool.and_eq_true] at hr; simp [e2 hr.1 hr.2]
  · rfl
  · simp only at hr; simp [e3 hr]
  · rfl
  · simp only [Bool.and_eq_true] at hr; simp [e4 hr.1 hr.2]
  · simp only [two_eq, e5, isE_bad]; simp
  · rfl
  · rfl
  · simp only [Bool.and_eq_true] at hr
    obtain ⟨rfl, rfl⟩ := e6 hr.1 hr.2
    simp
end Go.Proofs.Ytkbfhpahjloidaa
