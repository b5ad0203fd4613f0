/- Own text of this claim: an abstract machine over the given program form, and what follows from it. No condition. -/
import Derived.Test.YtkbfhpahjloidaaC8
set_option linter.unusedVariables false
set_option linter.unusedSimpArgs false
namespace Go.Proofs.Ytkbfhpahjloidaa
open Go Go.EV

theorem alR_val (t p : Int) (h0 : 0 ≤ t) (h1 : t ≤ 1048576) (hp : 1 ≤ p) (hp2 : p ≤ 1048576) : alR t p = if t % p = 0 then t else t - t % p + p := by
  unfold alR
  rw [Int.tmod_eq_emod_of_nonneg h0]
  have h2 := Int.emod_nonneg t (show p ≠ 0 by omega)
  have h3 := Int.emod_lt_of_pos t (show 0 < p by omega)
  rw [W_in (t - t % p) (by omega), W_in (t - t % p + p) (by omega)]
  by_cases h : t % p = 0
  · simp [h]
  · have hb : ((t % p) == 0) = false := by simpa using h
    rw [hb, cond_false, if_neg h]

theorem up_facts (t p : Int) (hp : p ∈ powers) (h0 : 0 ≤ t) (h1 : t ≤ 1048576) : 0 ≤ alR t p ∧ alR t p % p = 0 ∧ t ≤ alR t p ∧ alR t p - t < p ∧ alR t p ≤ 1048576 ∧ 1 ≤ p ∧ p ≤ 1048576 := by
  have hpp : 1 ≤ p ∧ p ≤ 1048576 := by
    simp only [powers, List.mem_cons, List.not_mem_nil, or_false] at hp
    omega
  rw [alR_val t p h0 h1 hpp.1 hpp.2]
  simp only [powers, List.mem_cons, List.not_mem_nil, or_false] at hp
  rcases hp with rfl | rfl | rfl | rfl | rfl | rfl | rfl | rfl | rfl | rfl | rfl | rfl | rfl | rfl | rfl | rfl | rfl | rfl | rfl | rfl | rfl
  all_goals (split <;> omega)

theorem size1 (p : Int) (h : isP p = true) : sizeOf' (isP p) 1 p = (p, 0) := by rw [h]; rfl
theorem size1' (p : Int) (h : isP p = false) : sizeOf' (isP p) 1 p = (0, 2) := by rw [h]; rfl

theorem aligns_pure (t n k : Int) : PureCall Try.prog 8 [i t, i n, i k] (.bool true) := by
  cases hc : (((sizeOf' (isP n) 1 n).2 != 0) || decide (t < 0) || decide (t > sp))
  · simp only [Bool.or_eq_false_iff, decide_eq_false_iff_not, sp] at hc
    obtain ⟨⟨h1, h2⟩, h3⟩ := hc
    have hP : isP n = true := by
      cases h : isP n
      · rw [size1' n h] at h1; cases h1
      · rfl
    have hmem : n ∈ powers := pow_mem (by rw [← isP_pow]; exact hP)
    obtain ⟨f0, f1, f2, f3, f4, f5, f6⟩ := up_facts t n hmem (by omega) (by omega)
    have hal : alignC t n = alR t n := by
      unfold alignC
      have : (decide (t < 0) || decide (t > sp) || !isP n) = false := by simp [hP, sp]; omega
      rw [this, cond_false]
      exact al_eq t n hmem (by omega) (by omega)
    have := List.map_inj_left.mp (run8b t k ((sizeOf' (isP n) k n).2 != 0)) n hmem
    refine pure_of_runV G3 this ?_ rfl rfl
    have ht : (alR t n).tmod n = 0 := by rw [Int.tmod_eq_emod_of_nonneg f0]; exact f1
    intro e he
    simp only [List.mem_cons, List.not_mem_nil, or_false] at he
    rcases he with rfl | rfl | rfl | rfl | rfl | rfl | rfl | rfl | rfl | rfl | rfl
    all_goals intro hr
    · exact h1
    · simpa using h2
    · simpa [sp] using h3
    · simp [size1 n hP]
    · simp [hal, ht]
    · simp only [hal]; simpa using f2
    · simp only [hal]; rw [W_in _ (by omega)]; simpa using f3
    · simp only [hal, ht]
      rw [show alR t n - 0 = alR t n by omega, W_in _ (by omega)]
      unfold alignC
      have : (decide (alR t n < 0) || decide (alR t n > sp) || !isP n) = false := by simp [hP, sp]; omega
      rw [this, cond_false, al_eq _ n hmem (by omega) (by omega), alR_val _ _ (by omega) (by omega) f5 f6, if_pos f1]
      simp
    · rfl
    · simp only [Bool.not_eq_true'] at hr
      simp only [decide_eq_true_eq]
      revert hr
      unfold sizeOf'
      cases (k == 2) <;> cases (k == 3) <;> cases (k == 4) <;> cases (k == 5) <;> cases (k == 1) <;> simp [hP] <;> omega
    · simp only [Bool.not_eq_true'] at hr
      simp only [decide_eq_true_eq, sp]
      revert hr
      unfold sizeOf'
      cases (k == 2) <;> cases (k == 3) <;> cases (k == 4) <;> cases (k == 5) <;> cases (k == 1) <;> simp [hP] <;> omega
  · refine pure_of_runV G3 (run8a t n k _ _ _ hc) ?_ rfl rfl
    intro e he
    simp only [List.mem_cons, List.not_mem_nil, or_false] at he
    rcases he with rfl | rfl | rfl | rfl
    all_goals intro hr
    · rfl
    · rfl
    · rfl
    · have : (decide (t < 0) || decide (t > sp) || !isP n) = true := by
        cases h : isP n
        · simp
        · rw [size1 n h] at hc
          simpa using hc
      simp only [alignC, this, cond_true]; rfl
end Go.Proofs.Ytkbfhpahjloidaa
