/- Own text of this claim: an abstract machine over the given program form, and what follows from it. No condition. -/
import Derived.Test.YtggpbcgkjalepaaD1
set_option linter.unusedVariables false
set_option linter.unusedSimpArgs false
namespace Go.Proofs.Ytggpbcgkjalepaa
open Go Go.EV
noncomputable section

theorem W_of {n : Int} (h1 : -9223372036854775808 ≤ n) (h2 : n < 9223372036854775808) : W n = n := by
  show IntKind.wrap .i64 n = n
  unfold IntKind.wrap
  simp only [IntKind.bits, IntKind.signed]
  have h3 : ((2 : Int) ^ (64 - 1)) = 9223372036854775808 := by decide
  have h4 : ((2 : Int) ^ 64) = 18446744073709551616 := by decide
  simp only [Bool.true_and, decide_eq_true_eq, h3, h4, ge_iff_le]
  split <;> omega

theorem tdiv_of {n : Int} (h : 0 ≤ n) (k : Int) : n.tdiv k = n / k := Int.tdiv_eq_ediv_of_nonneg h
theorem tmod_of {n : Int} (h : 0 ≤ n) (k : Int) : n.tmod k = n % k := Int.tmod_eq_emod_of_nonneg h

/-- what the numbers say of places -/
theorem objOf_in {o f : Int} (h1 : 0 ≤ o) (h2 : o < 56) (h3 : 0 ≤ f) (h4 : f < 16) : objOf o f = 64 * o + f := by
  unfold objOf
  rw [iLt_eq, iLt_eq, iLt_eq, iLt_eq, decide_eq_false (by omega), decide_eq_true h2, decide_eq_false (by omega), decide_eq_true h4]
  simp only [Bool.not_true, Bool.or_self, cond_false]
  rw [W_of (n := 64 * o) (by omega) (by omega), W_of (by omega) (by omega)]
theorem objOf_out {o f : Int} (h : ¬ (0 ≤ o ∧ o < 56 ∧ 0 ≤ f ∧ f < 16)) : objOf o f = -1 := by
  unfold objOf
  rw [iLt_eq, iLt_eq, iLt_eq, iLt_eq]
  have : (decide (o < 0) || !decide (o < 56) || decide (f < 0) || !decide (f < 16)) = true := by
    simp only [Bool.or_eq_true, Bool.not_eq_true', decide_eq_true_eq, decide_eq_false_iff_not]; omega
  rw [this]; rfl
theorem coreOf_in {o f : Int} (h1 : 0 ≤ o) (h2 : o < 31) (h3 : 0 ≤ f) (h4 : f < 16) : coreOf o f = 3584 + 16 * o + f := by
  unfold coreOf
  rw [iLt_eq, iLt_eq, iLt_eq, iLt_eq, decide_eq_false (by omega), decide_eq_true h2, decide_eq_false (by omega), decide_eq_true h4]
  simp only [Bool.not_true, Bool.or_self, cond_false]
  rw [W_of (n := 16 * o) (by omega) (by omega), W_of (n := 3584 + 16 * o) (by omega) (by omega), W_of (by omega) (by omega)]
theorem coreOf_out {o f : Int} (h : ¬ (0 ≤ o ∧ o < 31 ∧ 0 ≤ f ∧ f < 16)) : coreOf o f = -1 := by
  unfold coreOf
  rw [iLt_eq, iLt_eq, iLt_eq, iLt_eq]
  have : (decide (o < 0) || !decide (o < 31) || decide (f < 0) || !decide (f < 16)) = true := by
    simp only [Bool.or_eq_true, Bool.not_eq_true', decide_eq_true_eq, decide_eq_false_iff_not]; omega
  rw [this]; rfl
theorem codeOf_in {o s : Int} (h1 : 0 ≤ o) (h2 : o < 56) (h3 : 0 ≤ s) (h4 : s < 8) : codeOf o s = 8 * o + s + 1 := by
  unfold codeOf noKey
  rw [iLt_eq, iLt_eq, iLt_eq, iLt_eq, decide_eq_false (by omega), decide_eq_true h2, decide_eq_false (by omega), decide_eq_true h4]
  simp only [Bool.not_true, Bool.or_self, cond_false]
  rw [W_of (n := 8 * o) (by omega) (by omega), W_of (n := 8 * o + s) (by omega) (by omega), W_of (by omega) (by omega)]
theorem codeOf_out {o s : Int} (h : ¬ (0 ≤ o ∧ o < 56 ∧ 0 ≤ s ∧ s < 8)) : codeOf o s = 0 := by
  unfold codeOf noKey
  rw [iLt_eq, iLt_eq, iLt_eq, iLt_eq]
  have : (decide (o < 0) || !decide (o < 56) || decide (s < 0) || !decide (s < 8)) = true := by
    simp only [Bool.or_eq_true, Bool.not_eq_true', decide_eq_true_eq, decide_eq_false_iff_not]; omega
  rw [this]; rfl
theorem slotOf_in {o s f : Int} (h1 : 0 ≤ o) (h2 : o < 56) (h3 : 0 ≤ s) (h4 : s < 8) (h5 : 0 ≤ f) (h6 : f < 6) : slotOf o s f = 64 * o + 16 + 6 * s + f := by
  unfold slotOf
  rw [codeOf_in h1 h2 h3 h4, iEq_eq, iLt_eq, iLt_eq, decide_eq_false (by omega), decide_eq_true h6, show (8 * o + s + 1 == 0) = false by rw [beq_eq_false_iff_ne]; omega]
  simp only [Bool.not_true, Bool.or_self, cond_false]
  rw [W_of (n := 64 * o) (by omega) (by omega), W_of (n := 64 * o + 16) (by omega) (by omega), W_of (n := 6 * s) (by omega) (by omega), W_of (n := 64 * o + 16 + 6 * s) (by omega) (by omega), W_of (by omega) (by omega)]
theorem slotOf_out {o s f : Int} (h : ¬ (0 ≤ o ∧ o < 56 ∧ 0 ≤ s ∧ s < 8 ∧ 0 ≤ f ∧ f < 6)) : slotOf o s f = -1 := by
  unfold slotOf
  have : (iEq (codeOf o s) 0 || iLt f 0 || !iLt f 6) = true := by
    rw [iLt_eq, iLt_eq, iEq_eq]
    by_cases hk : 0 ≤ o ∧ o < 56 ∧ 0 ≤ s ∧ s < 8
    · simp only [Bool.or_eq_true, Bool.not_eq_true', decide_eq_true_eq, decide_eq_false_iff_not]; omega
    · rw [codeOf_out hk]; rfl
  rw [this]; rfl

theorem guard_eq (n : Int) : guardC n = guardR n := by
  unfold guardC guardR gC gR
  rw [iLt_eq, iLt_eq, iLt_eq, iLt_eq, iEq_eq]
  by_cases h0 : n = 4095
  · subst h0; rfl
  · rw [show (n == 4095) = false by rw [beq_eq_false_iff_ne]; exact h0]
    by_cases h1 : 0 ≤ n ∧ n < 4080
    · rw [decide_eq_false (by omega : ¬ n < 0), decide_eq_true h1.2]
      simp only [Bool.not_true, Bool.or_self, cond_false]
      rw [tmod_of h1.1, tdiv_of h1.1]
      by_cases h2 : n < 3584
      · rw [decide_eq_true h2]
        simp only [Bool.not_true, cond_false]
        by_cases h3 : n % 64 < 16
        · rw [decide_eq_true h3]
          simp only [cond_true]
          rw [W_of (n := n / 64) (by omega) (by omega), objOf_in (by omega) (by omega) (by omega) (by omega), W_of (by omega) (by omega)]
          omega
        · rw [decide_eq_false h3]
          simp only [cond_false]
          rw [W_of (n := n / 64) (by omega) (by omega), W_of (n := n % 64 - 16) (by omega) (by omega), tdiv_of (by omega), tmod_of (by omega), W_of (n := (n % 64 - 16) / 6) (by omega) (by omega),
            slotOf_in (by omega) (by omega) (by omega) (by omega) (by omega) (by omega), W_of (by omega) (by omega)]
          omega
      · rw [decide_eq_false h2]
        simp only [Bool.not_false, cond_true]
        rw [W_of (n := n - 3584) (by omega) (by omega), tdiv_of (by omega), tmod_of (by omega), W_of (n := (n - 3584) / 16) (by omega) (by omega), coreOf_in (by omega) (by omega) (by omega) (by omega),
          W_of (n := n - (n - 3584) % 16) (by omega) (by omega), W_of (by omega) (by omega)]
        omega
    · have : (decide (n < 0) || !decide (n < 4080)) = true := by
        simp only [Bool.or_eq_true, Bool.not_eq_true', decide_eq_true_eq, decide_eq_false_iff_not]; omega
      rw [this]; rfl
end
end Go.Proofs.Ytggpbcgkjalepaa
