/- Own text of this claim: an abstract machine over the given program form, and what follows from it. No condition. -/
import Derived.Test.YtkbfhpahjloidaaK4
set_option linter.unusedVariables false
set_option linter.unusedSimpArgs false
namespace Go.Proofs.Ytkbfhpahjloidaa
open Go Go.EV
theorem and_half (a b : Nat) : (a &&& b) / 2 = a / 2 &&& b / 2 := by
  apply Nat.eq_of_testBit_eq
  intro i
  rw [← Nat.testBit_add_one, Nat.testBit_and, Nat.testBit_and, ← Nat.testBit_add_one, ← Nat.testBit_add_one]

/-- a number of which no bit is shared with the one ahead of it is a power of two -/
theorem pow_of_and : ∀ (n : Nat), 1 ≤ n → n &&& (n - 1) = 0 → ∃ j, n = 2 ^ j := by
  intro n
  induction n using Nat.strongRecOn with
  | ind n ih =>
    intro h1 h
    have hh := and_half n (n - 1)
    rw [h] at hh
    rcases Nat.mod_two_eq_zero_or_one n with h2 | h2
    · have e1 : (n - 1) / 2 = n / 2 - 1 := by omega
      rw [e1] at hh
      obtain ⟨j, hj⟩ := ih (n / 2) (by omega) (by omega) (by simpa using hh.symm)
      exact ⟨j + 1, by rw [Nat.pow_succ]; omega⟩
    · have e1 : (n - 1) / 2 = n / 2 := by omega
      rw [e1, Nat.and_self] at hh
      exact ⟨0, by simp; omega⟩

theorem toNat_ofInt {n : Int} (h0 : 0 ≤ n) (h1 : n < 18446744073709551616) : (BitVec.ofInt 64 n).toNat = n.toNat := by
  rw [BitVec.toNat_ofInt]
  rw [Int.emod_eq_of_lt h0 (by simpa using h1)]

/-- what is cleared below a power of two -/
theorem clear_low (x j : Nat) (hx : x < 2 ^ 64) (hj : j < 64) : (BitVec.ofNat 64 x &&& ~~~(BitVec.ofNat 64 (2 ^ j - 1))).toNat = x / 2 ^ j * 2 ^ j := by
  rw [← Nat.shiftRight_eq_div_pow, ← Nat.shiftLeft_eq]
  apply Nat.eq_of_testBit_eq
  intro i
  rw [BitVec.testBit_toNat, BitVec.getLsbD_and, BitVec.getLsbD_not, BitVec.getLsbD_ofNat, BitVec.getLsbD_ofNat, Nat.testBit_two_pow_sub_one, Nat.testBit_shiftLeft, Nat.testBit_shiftRight]
  by_cases hi : i < 64
  · by_cases hij : i < j
    · simp [hi, hij]; omega
    · have : j + (i - j) = i := by omega
      simp [hi, hij, this]
      omega
  · have : x.testBit i = false := Nat.testBit_lt_two_pow (Nat.lt_of_lt_of_le hx (Nat.pow_le_pow_right (by omega) (by omega)))
    have h2 : j + (i - j) = i := by omega
    simp [hi, h2, this]

theorem ofInt_nat (n : Int) (h : 0 ≤ n) : BitVec.ofInt 64 n = BitVec.ofNat 64 n.toNat := by
  obtain ⟨m, rfl⟩ := Int.eq_ofNat_of_zero_le h
  simp [BitVec.ofInt_natCast]

theorem alC_eq (t : Int) (j : Nat) (hj : j ≤ 20) (h0 : 0 ≤ t) (h1 : t ≤ 1048576) : alC t ((2 ^ j : Nat) : Int) = (((t.toNat + 2 ^ j - 1) / 2 ^ j * 2 ^ j : Nat) : Int) := by
  have hp : 2 ^ j ≤ 2 ^ 20 := Nat.pow_le_pow_right (by omega) hj
  have hp1 : 1 ≤ 2 ^ j := Nat.one_le_two_pow
  unfold alC
  rw [W_in (t + _) (by omega), W_in (t + _ - 1) (by omega), W_in (((2 ^ j : Nat) : Int) - 1) (by omega), ofInt_nat _ (by omega), ofInt_nat _ (by omega)]
  rw [show (t + ((2 ^ j : Nat) : Int) - 1).toNat = t.toNat + 2 ^ j - 1 by omega, show (((2 ^ j : Nat) : Int) - 1).toNat = 2 ^ j - 1 by omega]
  rw [clear_low _ j (by omega) (by omega)]
  have : (t.toNat + 2 ^ j - 1) / 2 ^ j * 2 ^ j ≤ t.toNat + 2 ^ j - 1 := Nat.div_mul_le_self _ _
  exact W_in _ (by omega)


theorem isP_pow (n : Int) (h : isP n = true) : ∃ j, j ≤ 20 ∧ n = ((2 ^ j : Nat) : Int) := by
  unfold isP at h
  rw [gt_i, le_i, iEq_eq] at h
  simp only [Bool.and_eq_true, decide_eq_true_eq, beq_iff_eq, sp] at h
  obtain ⟨⟨h1, h2⟩, h3⟩ := h
  rw [W_in (n - 1) (by omega), BitVec.toNat_and, toNat_ofInt (by omega) (by omega), toNat_ofInt (by omega) (by omega)] at h3
  have hle : n.toNat &&& (n - 1).toNat ≤ n.toNat := Nat.and_le_left
  rw [W_in _ (by omega)] at h3
  have h4 : n.toNat &&& (n.toNat - 1) = 0 := by
    rw [show n.toNat - 1 = (n - 1).toNat by omega]; omega
  obtain ⟨j, hj⟩ := pow_of_and n.toNat (by omega) h4
  have hj21 : j < 21 := by
    rcases Nat.lt_or_ge j 21 with h | h
    · exact h
    · have := Nat.pow_le_pow_right (n := 2) (by omega) h
      omega
  exact ⟨j, by omega, by rw [← hj]; omega⟩

theorem isE_iff (s z : Int) : isE s z = true ↔ 0 ≤ s ∧ s ≤ 1048576 ∧ 1 ≤ z ∧ z ≤ 1048576 - s := by
  have hb : isE s z = !bad s z := by
    unfold isE
    cases bad s z <;> rfl
  rw [hb]
  unfold bad
  rw [iLt_eq, iLt_eq, iLt_eq, iLt_eq]
  simp only [Bool.not_eq_true', Bool.or_eq_false_iff, decide_eq_false_iff_not, sp]
  constructor
  · rintro ⟨⟨⟨h1, h2⟩, h3⟩, h4⟩
    rw [W_in (1048576 - s) (by omega)] at h4
    omega
  · rintro ⟨h1, h2, h3, h4⟩
    rw [W_in (1048576 - s) (by omega)]
    omega
theorem end_eq {s z : Int} (h : isE s z = true) : W (s + z) = s + z := by
  rw [isE_iff] at h
  exact W_in _ (by omega)
theorem inside_of {s z s' z' : Int} (h1 : isE s z = true) (h2 : isE s' z' = true) (h3 : s' ≤ s) (h4 : s + z ≤ s' + z') : inside s z s' z' = true := by
  unfold inside
  rw [h1, h2, end_eq h1, end_eq h2, ge_i, le_i, decide_eq_true h3, decide_eq_true h4]; rfl
theorem meet_not {s z s' z' : Int} (h : s' + z' ≤ s) : meetC s z s' z' = false := by
  unfold meetC
  cases h1 : isE s z with
  | false => rfl
  | true => cases h2 : isE s' z' with
    | false => rfl
    | true =>
      rw [end_eq h1, end_eq h2, iLt_eq]
      have g1 := (isE_iff _ _).mp h1
      have g2 := (isE_iff _ _).mp h2
      simp only [Bool.true_and, decide_eq_false_iff_not]
      unfold mm2
      simp only
      split <;> split <;> omega

/-- what is given away -/
theorem piece {s z u m : Int} (h : pE s z u m = 0) : isE s z = true ∧ 0 ≤ u ∧ u ≤ z ∧ 1 ≤ m ∧ m ≤ 1048576 ∧ (pS s z u m) % m = 0 ∧ s + u ≤ pS s z u m ∧ pZ s z u m = m ∧ pW s z u m = pS s z u m - s + m ∧ pW s z u m ≤ z := by
  have hr : ref s z u m = false := by
    unfold pE at h
    cases hr : ref s z u m with
    | false => rfl
    | true => rw [hr] at h; cases h
  have hf : full s z u m = false := by
    unfold pE at h
    rw [hr] at h
    cases hf : full s z u m with
    | false => rfl
    | true => rw [hf] at h; cases h
  unfold pS pZ pW
  rw [hr, hf]
  simp only [Bool.or_self, cond_false]
  unfold ref at hr
  rw [iLt_eq, iLt_eq] at hr
  simp only [Bool.or_eq_false_iff, Bool.not_eq_false', decide_eq_false_iff_not] at hr
  obtain ⟨⟨⟨h1, h2⟩, h3⟩, h4⟩ := hr
  have g1 := (isE_iff _ _).mp h1
  obtain ⟨j, hj, rfl⟩ := isP_pow m h2
  have hp : 2 ^ j ≤ 2 ^ 20 := Nat.pow_le_pow_right (by omega) hj
  have hp1 : 1 ≤ 2 ^ j := Nat.one_le_two_pow
  rw [W_in (s + u) (by omega)]
  have hal : alignC (s + u) ((2 ^ j : Nat) : Int) = ((((s + u).toNat + 2 ^ j - 1) / 2 ^ j * 2 ^ j : Nat) : Int) := by
    unfold alignC
    rw [iLt_eq, iLt_eq, h2, decide_eq_false (by omega), decide_eq_false (by simp only [sp]; omega)]
    exact alC_eq (s + u) j hj (by omega) (by omega)
  unfold full at hf
  rw [W_in (s + u) (by omega), hal, iLt_eq, decide_eq_false_iff_not] at hf
  rw [hal]
  generalize hq : 2 ^ j = q at *
  have e1 := Nat.div_add_mod ((s + u).toNat + q - 1) q
  have e2 := Nat.mod_lt ((s + u).toNat + q - 1) (show 0 < q by omega)
  rw [Nat.mul_comm] at e1
  generalize hx : ((s + u).toNat + q - 1) / q * q = x at *
  have e3 : ((x : Nat) : Int) % ((q : Nat) : Int) = 0 := by
    rw [← hx]; simp
  rw [W_in (((x : Nat) : Int) - s) (by omega), W_in (((x : Nat) : Int) - s + _) (by omega)] at hf ⊢
  refine ⟨h1, by omega, by omega, by omega, by omega, e3, by omega, ?_, ?_, by omega⟩ <;> first | rfl | trivial

section
variable {s z w : Int} {a : Nat → Int} {n : Nat}
theorem cO_S (j : Nat) : cO s z w a (0 + j * 2) = ps' s z w a j := by
  unfold cO
  rw [show (0 + j * 2) % 2 = 0 by omega, show (0 + j * 2) / 2 = j by omega]; rfl
theorem cO_Z (j : Nat) : cO s z w a (0 + j * 2 + 1) = pz' s z w a j := by
  unfold cO
  rw [show (0 + j * 2 + 1) % 2 = 1 by omega, show (0 + j * 2 + 1) / 2 = j by omega]; rfl

/-- all pieces were given away -/
def AllOk (s z w : Int) (a : Nat → Int) (n : Nat) : Prop := ∀ j, j < n → pe' s z w a j = 0
theorem AllOk.at (h : AllOk s z w a n) {j : Nat} (hj : j < n) : isE s z = true ∧ 0 ≤ wt s z w a j ∧ wt s z w a j ≤ z ∧ 1 ≤ a (0 + j * 1) ∧ a (0 + j * 1) ≤ 1048576 ∧ ps' s z w a j % a (0 + j * 1) = 0 ∧ s + wt s z w a j ≤ ps' s z w a j ∧ pz' s z w a j = a (0 + j * 1) ∧ wt s z w a (j + 1) = ps' s z w a j - s + a (0 + j * 1) ∧ wt s z w a (j + 1) ≤ z := piece (h j hj)
theorem AllOk.mono (h : AllOk s z w a n) : ∀ {k j : Nat}, k ≤ j → j ≤ n → wt s z w a k ≤ wt s z w a j := by
  intro k j hk hj
  induction j with
  | zero => obtain rfl : k = 0 := by omega
            exact Int.le_refl _
  | succ j ih =>
    rcases Nat.lt_or_ge k (j + 1) with h1 | h1
    · have := ih (by omega) (by omega)
      have := h.at (j := j) (by omega)
      omega
    · obtain rfl : k = j + 1 := by omega
      exact Int.le_refl _
theorem AllOk.meet (h : AllOk s z w a n) {j k : Nat} (hk : k < j) (hj : j < n) : meetAt (cO s z w a) j k = false := by
  unfold meetAt cS cZ
  rw [cO_S, cO_S, cO_Z, cO_Z]
  have h1 := h.at hj
  have h2 := h.at (j := k) (by omega)
  have h3 := h.mono (k := k + 1) (j := j) (by omega) (by omega)
  exact meet_not (by omega)
theorem AllOk.ext (h : AllOk s z w a n) {j : Nat} (hj : j < n) : isE (ps' s z w a j) (pz' s z w a j) = true := by
  have h1 := h.at hj
  have g := (isE_iff _ _).mp h1.1
  rw [isE_iff]; omega
theorem AllOk.bad (h : AllOk s z w a n) {j : Nat} (hj : j < n) : badAt (cO s z w a) j = false := by
  unfold badAt cS cZ
  rw [cO_S, cO_Z, h.ext hj]; rfl
theorem AllOk.inside (h : AllOk s z w a n) {j : Nat} (hj : j < n) : Go.Proofs.Ytkbfhpahjloidaa.inside (cS (cO s z w a) j) (cZ (cO s z w a) j) s z = true := by
  have h1 := h.at hj
  show Go.Proofs.Ytkbfhpahjloidaa.inside (cO s z w a (0 + j * 2)) (cO s z w a (0 + j * 2 + 1)) s z = true
  rw [cO_S, cO_Z]
  exact inside_of (h.ext hj) h1.1 (by omega) (by omega)
theorem AllOk.size (h : AllOk s z w a n) {j : Nat} (hj : j < n) : (!iEq (cZ (cO s z w a) j) (a (0 + j * 1))) = false := by
  show (!iEq (cO s z w a (0 + j * 2 + 1)) (a (0 + j * 1))) = false
  rw [cO_Z, iEq_eq, (h.at hj).2.2.2.2.2.2.2.1]; simp
theorem AllOk.nz (h : AllOk s z w a n) {j : Nat} (hj : j < n) : (!iEq (a (0 + j * 1)) 0) = true := by
  have h1 := h.at hj
  rw [iEq_eq, Bool.not_eq_true', beq_eq_false_iff_ne]; omega
theorem AllOk.mult (h : AllOk s z w a n) {j : Nat} (hj : j < n) : (!iEq ((oS s z w a j).tmod (a (0 + j * 1))) 0) = false := by
  have h1 := h.at hj
  have g := (isE_iff _ _).mp h1.1
  show (!iEq ((cO s z w a (0 + j * 2)).tmod _) 0) = false
  rw [cO_S, iEq_eq, Int.tmod_eq_emod_of_nonneg (by omega), h1.2.2.2.2.2.1]; rfl
theorem AllOk.behind (h : AllOk s z w a n) {j : Nat} (hj : j < n) : iLt (W (oS s z w a j - s)) w = false := by
  have h1 := h.at hj
  have g := (isE_iff _ _).mp h1.1
  have h2 := h.mono (k := 0) (j := j) (by omega) (by omega)
  have h3 : wt s z w a 0 = w := rfl
  show iLt (W (cO s z w a (0 + j * 2) - s)) w = false
  rw [cO_S, W_in _ (by omega), iLt_eq, decide_eq_false_iff_not]; omega
theorem AllOk.ahead (h : AllOk s z w a n) {j : Nat} (hj : j < n) : iLt (W (wt s z w a n - a (0 + j * 1))) (W (oS s z w a j - s)) = false := by
  have h1 := h.at hj
  have g := (isE_iff _ _).mp h1.1
  have h2 := h.mono (k := j + 1) (j := n) (by omega) (by omega)
  have h4 := h.mono (k := 0) (j := j) (by omega) (by omega)
  have h5 := h.at (j := n - 1) (by omega)
  rw [show n - 1 + 1 = n by omega] at h5
  show iLt _ (W (cO s z w a (0 + j * 2) - s)) = false
  rw [cO_S, W_in (ps' s z w a j - s) (by omega), W_in _ (by omega), iLt_eq, decide_eq_false_iff_not]; omega
theorem AllOk.more (h : AllOk s z w a n) (hn : 0 < n) : (!iLt w (wt s z w a n)) = false ∧ iLt z (wt s z w a n) = false := by
  have h1 := h.at (j := 0) hn
  have h2 := h.mono (k := 1) (j := n) (by omega) (by omega)
  have h3 := h.at (j := n - 1) (by omega)
  rw [show n - 1 + 1 = n by omega] at h3
  have h4 : wt s z w a 0 = w := rfl
  rw [show (0 : Nat) + 1 = 1 from rfl] at h1
  constructor
  · rw [iLt_eq, Bool.not_eq_false', decide_eq_true_eq]; omega
  · rw [iLt_eq, decide_eq_false_iff_not]; omega
end
end Go.Proofs.Ytkbfhpahjloidaa
