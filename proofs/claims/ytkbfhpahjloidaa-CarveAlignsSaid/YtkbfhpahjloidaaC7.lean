/- Own text of this claim: an abstract machine over the given program form, and what follows from it. No condition. -/
import Derived.Test.YtkbfhpahjloidaaC5
set_option linter.unusedVariables false
set_option linter.unusedSimpArgs false
namespace Go.Proofs.Ytkbfhpahjloidaa
open Go Go.EV

theorem and_half (a b : Nat) : (a &&& b) / 2 = a / 2 &&& b / 2 := by
  apply Nat.eq_of_testBit_eq
  intro i
  rw [← Nat.testBit_add_one, Nat.testBit_and, Nat.testBit_and, ← Nat.testBit_add_one, ← Nat.testBit_add_one]

/-- a number of which no bit is shared with the one ahead of it is a power of two -/
theorem pow_of_and : ∀ (n : Nat), 1 ≤ n → n &&& (n - 1) = 0 → ∃ j, n = 2 ^ j := by
  intro n
  induction n using Nat.strongRecOn with
  | ind n ih =>
    intro h1 h
    have hh := and_half n (n - 1)
    rw [h] at hh
    rcases Nat.mod_two_eq_zero_or_one n with h2 | h2
    · have e1 : (n - 1) / 2 = n / 2 - 1 := by omega
      rw [e1] at hh
      obtain ⟨j, hj⟩ := ih (n / 2) (by omega) (by omega) (by simpa using hh.symm)
      exact ⟨j + 1, by rw [Nat.pow_succ]; omega⟩
    · have e1 : (n - 1) / 2 = n / 2 := by omega
      rw [e1, Nat.and_self] at hh
      exact ⟨0, by simp; omega⟩

theorem powers_lit : ((List.range 21).all fun j => powers.contains ((2 : Int) ^ j)) = true := by decide +kernel
theorem isP_all : (powers.all fun k => isP k) = true := by decide +kernel

theorem toNat_ofInt {n : Int} (h0 : 0 ≤ n) (h1 : n < 18446744073709551616) : (BitVec.ofInt 64 n).toNat = n.toNat := by
  rw [BitVec.toNat_ofInt]
  rw [Int.emod_eq_of_lt h0 (by simpa using h1)]

theorem isP_pow (n : Int) : isP n = pow n := by
  rw [Bool.eq_iff_iff]
  constructor
  · intro h
    unfold isP at h
    simp only [Bool.and_eq_true, decide_eq_true_eq, beq_iff_eq, sp] at h
    obtain ⟨⟨h1, h2⟩, h3⟩ := h
    rw [W_in (n - 1) (by omega), BitVec.toNat_and, toNat_ofInt (by omega) (by omega), toNat_ofInt (by omega) (by omega)] at h3
    have hle : n.toNat &&& (n - 1).toNat ≤ n.toNat := Nat.and_le_left
    rw [W_in _ (by omega)] at h3
    have h4 : n.toNat &&& (n.toNat - 1) = 0 := by
      rw [show n.toNat - 1 = (n - 1).toNat by omega]; omega
    obtain ⟨j, hj⟩ := pow_of_and n.toNat (by omega) h4
    have hj21 : j < 21 := by
      rcases Nat.lt_or_ge j 21 with h | h
      · exact h
      · have := Nat.pow_le_pow_right (n := 2) (by omega) h
        omega
    have := List.all_eq_true.mp powers_lit j (List.mem_range.mpr hj21)
    have hn : (2 : Int) ^ j = n := by
      have : ((n.toNat : Nat) : Int) = ((2 ^ j : Nat) : Int) := by rw [hj]
      rw [Int.natCast_pow] at this
      have h5 : ((n.toNat : Nat) : Int) = n := by omega
      rw [h5] at this
      simpa using this.symm
    rw [hn] at this
    unfold pow
    rw [List.any_eq_true]
    exact ⟨n, by simpa using this, by simp⟩
  · intro h
    exact List.all_eq_true.mp isP_all n (pow_mem h)

/-- what is cleared below a power of two -/
theorem clear_low (x j : Nat) (hx : x < 2 ^ 64) (hj : j < 64) : (BitVec.ofNat 64 x &&& ~~~(BitVec.ofNat 64 (2 ^ j - 1))).toNat = x / 2 ^ j * 2 ^ j := by
  rw [← Nat.shiftRight_eq_div_pow, ← Nat.shiftLeft_eq]
  apply Nat.eq_of_testBit_eq
  intro i
  rw [BitVec.testBit_toNat, BitVec.getLsbD_and, BitVec.getLsbD_not, BitVec.getLsbD_ofNat, BitVec.getLsbD_ofNat, Nat.testBit_two_pow_sub_one, Nat.testBit_shiftLeft, Nat.testBit_shiftRight]
  by_cases hi : i < 64
  · by_cases hij : i < j
    · simp [hi, hij]; omega
    · have : j + (i - j) = i := by omega
      simp [hi, hij, this]
      omega
  · have : x.testBit i = false := Nat.testBit_lt_two_pow (Nat.lt_of_lt_of_le hx (Nat.pow_le_pow_right (by omega) (by omega)))
    have h2 : j + (i - j) = i := by omega
    simp [hi, h2, this]

theorem ofInt_nat (n : Int) (h : 0 ≤ n) : BitVec.ofInt 64 n = BitVec.ofNat 64 n.toNat := by
  obtain ⟨m, rfl⟩ := Int.eq_ofNat_of_zero_le h
  simp [BitVec.ofInt_natCast]

theorem alC_eq (t : Int) (j : Nat) (hj : j ≤ 20) (h0 : 0 ≤ t) (h1 : t ≤ 1048576) : alC t ((2 ^ j : Nat) : Int) = (((t.toNat + 2 ^ j - 1) / 2 ^ j * 2 ^ j : Nat) : Int) := by
  have hp : 2 ^ j ≤ 2 ^ 20 := Nat.pow_le_pow_right (by omega) hj
  have hp1 : 1 ≤ 2 ^ j := Nat.one_le_two_pow
  unfold alC
  rw [W_in (t + _) (by omega), W_in (t + _ - 1) (by omega), W_in (((2 ^ j : Nat) : Int) - 1) (by omega), ofInt_nat _ (by omega), ofInt_nat _ (by omega)]
  rw [show (t + ((2 ^ j : Nat) : Int) - 1).toNat = t.toNat + 2 ^ j - 1 by omega, show (((2 ^ j : Nat) : Int) - 1).toNat = 2 ^ j - 1 by omega]
  rw [clear_low _ j (by omega) (by omega)]
  have : (t.toNat + 2 ^ j - 1) / 2 ^ j * 2 ^ j ≤ t.toNat + 2 ^ j - 1 := Nat.div_mul_le_self _ _
  exact W_in _ (by omega)

theorem powers_at (n : Int) (h : n ∈ powers) : ∃ j, j ≤ 20 ∧ n = ((2 ^ j : Nat) : Int) := by
  simp only [powers, List.mem_cons, List.not_mem_nil, or_false] at h
  rcases h with rfl | rfl | rfl | rfl | rfl | rfl | rfl | rfl | rfl | rfl | rfl | rfl | rfl | rfl | rfl | rfl | rfl | rfl | rfl | rfl | rfl
  · exact ⟨0, by decide, by decide⟩
  · exact ⟨1, by decide, by decide⟩
  · exact ⟨2, by decide, by decide⟩
  · exact ⟨3, by decide, by decide⟩
  · exact ⟨4, by decide, by decide⟩
  · exact ⟨5, by decide, by decide⟩
  · exact ⟨6, by decide, by decide⟩
  · exact ⟨7, by decide, by decide⟩
  · exact ⟨8, by decide, by decide⟩
  · exact ⟨9, by decide, by decide⟩
  · exact ⟨10, by decide, by decide⟩
  · exact ⟨11, by decide, by decide⟩
  · exact ⟨12, by decide, by decide⟩
  · exact ⟨13, by decide, by decide⟩
  · exact ⟨14, by decide, by decide⟩
  · exact ⟨15, by decide, by decide⟩
  · exact ⟨16, by decide, by decide⟩
  · exact ⟨17, by decide, by decide⟩
  · exact ⟨18, by decide, by decide⟩
  · exact ⟨19, by decide, by decide⟩
  · exact ⟨20, by decide, by decide⟩

/-- the least multiple from somewhere on -/
theorem up_eq (t m : Nat) (hm : 1 ≤ m) : (t + m - 1) / m * m = if t % m = 0 then t else t - t % m + m := by
  have h := Nat.div_add_mod t m
  have hlt := Nat.mod_lt t (show 0 < m by omega)
  generalize hq : t / m = q at h
  generalize hr : t % m = r at h hlt
  have hmul : m * (q + 1) = m * q + m := by rw [Nat.mul_add, Nat.mul_one]
  by_cases h0 : r = 0
  · rw [if_pos h0]
    have : t + m - 1 = m * q + (m - 1) := by omega
    rw [this, Nat.mul_add_div (by omega), Nat.div_eq_of_lt (by omega), Nat.add_zero, Nat.mul_comm]
    omega
  · rw [if_neg h0]
    have : t + m - 1 = m * (q + 1) + (r - 1) := by omega
    rw [this, Nat.mul_add_div (by omega), Nat.div_eq_of_lt (by omega), Nat.add_zero, Nat.mul_comm, hmul]
    omega

theorem al_eq (t n : Int) (hn : n ∈ powers) (h0 : 0 ≤ t) (h1 : t ≤ 1048576) : alC t n = alR t n := by
  obtain ⟨j, hj, rfl⟩ := powers_at n hn
  rw [alC_eq t j hj h0 h1]
  have hp : 2 ^ j ≤ 2 ^ 20 := Nat.pow_le_pow_right (by omega) hj
  have hp1 : 1 ≤ 2 ^ j := Nat.one_le_two_pow
  unfold alR
  obtain ⟨m, rfl⟩ := Int.eq_ofNat_of_zero_le h0
  rw [up_eq _ _ hp1]
  have hmod : ((m : Int)).tmod ((2 ^ j : Nat) : Int) = ((m % 2 ^ j : Nat) : Int) := by
    rw [Int.tmod_eq_emod_of_nonneg (by omega)]; simp
  rw [hmod]
  have hlt := Nat.mod_lt m (show 0 < 2 ^ j by omega)
  have hle := Nat.mod_le m (2 ^ j)
  simp only [Int.toNat_natCast]
  generalize m % 2 ^ j = r at *
  generalize 2 ^ j = q at *
  by_cases hz : r = 0
  · simp [hz]
  · have hb : (((r : Nat) : Int) == 0) = false := by simp; omega
    rw [hb, cond_false, W_in (_ - _) (by omega), W_in _ (by omega), if_neg hz]
    omega

theorem align_eq (t n : Int) : alignC t n = alignR t n := by
  unfold alignC alignR
  rw [isP_pow]
  cases hc : (decide (t < 0) || decide (t > sp) || !pow n)
  · simp only [cond_false]
    simp only [Bool.or_eq_false_iff, Bool.not_eq_false', decide_eq_false_iff_not, sp] at hc
    exact al_eq t n (pow_mem hc.2) (by omega) (by omega)
  · rfl
end Go.Proofs.Ytkbfhpahjloidaa
