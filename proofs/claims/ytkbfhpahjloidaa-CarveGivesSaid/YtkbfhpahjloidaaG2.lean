/- Own text of this claim: an abstract machine over the given program form, and what follows from it. No condition. -/
import Derived.Test.YtkbfhpahjloidaaG1
set_option linter.unusedVariables false
set_option linter.unusedSimpArgs false
namespace Go.Proofs.Ytkbfhpahjloidaa
open Go Go.EV
noncomputable section
theorem fnSpec_br {P : Program} {g : FuncId} {a : List AV} {t : T AV} (h : t.Wp (fun v => FnCall P g a v)) : ∀ v, t.Sel v → FnCall P g a v := by
  intro v hs
  induction t with
  | leaf b =>
    have hs : b = v := hs
    subst hs; exact h
  | br c x y ihx ihy =>
    rcases hs with ⟨hc, hs⟩ | ⟨hc, hs⟩
    · exact ihx (h.1 hc) hs
    · exact ihy (h.2 hc) hs
  | ck p x ih => exact ih h.2 hs.2

theorem and_half (a b : Nat) : (a &&& b) / 2 = a / 2 &&& b / 2 := by
  apply Nat.eq_of_testBit_eq
  intro i
  rw [← Nat.testBit_add_one, Nat.testBit_and, Nat.testBit_and, ← Nat.testBit_add_one, ← Nat.testBit_add_one]
theorem pow_of_and : ∀ (n : Nat), 1 ≤ n → n &&& (n - 1) = 0 → ∃ j, n = 2 ^ j := by
  intro n
  induction n using Nat.strongRecOn with
  | ind n ih =>
    intro h1 h
    have hh := and_half n (n - 1)
    rw [h] at hh
    rcases Nat.mod_two_eq_zero_or_one n with h2 | h2
    · have e1 : (n - 1) / 2 = n / 2 - 1 := by omega
      rw [e1] at hh
      obtain ⟨j, hj⟩ := ih (n / 2) (by omega) (by omega) (by simpa using hh.symm)
      exact ⟨j + 1, by rw [Nat.pow_succ]; omega⟩
    · have e1 : (n - 1) / 2 = n / 2 := by omega
      rw [e1, Nat.and_self] at hh
      exact ⟨0, by simp; omega⟩
theorem toNat_ofInt {n : Int} (h0 : 0 ≤ n) (h1 : n < 18446744073709551616) : (BitVec.ofInt 64 n).toNat = n.toNat := by
  rw [BitVec.toNat_ofInt]
  rw [Int.emod_eq_of_lt h0 (by simpa using h1)]
theorem clear_low (x j : Nat) (hx : x < 2 ^ 64) (hj : j < 64) : (BitVec.ofNat 64 x &&& ~~~(BitVec.ofNat 64 (2 ^ j - 1))).toNat = x / 2 ^ j * 2 ^ j := by
  rw [← Nat.shiftRight_eq_div_pow, ← Nat.shiftLeft_eq]
  apply Nat.eq_of_testBit_eq
  intro i
  rw [BitVec.testBit_toNat, BitVec.getLsbD_and, BitVec.getLsbD_not, BitVec.getLsbD_ofNat, BitVec.getLsbD_ofNat, Nat.testBit_two_pow_sub_one, Nat.testBit_shiftLeft, Nat.testBit_shiftRight]
  by_cases hi : i < 64
  · by_cases hij : i < j
    · simp [hi, hij]; omega
    · have : j + (i - j) = i := by omega
      simp [hi, hij, this]
      omega
  · have : x.testBit i = false := Nat.testBit_lt_two_pow (Nat.lt_of_lt_of_le hx (Nat.pow_le_pow_right (by omega) (by omega)))
    have h2 : j + (i - j) = i := by omega
    simp [hi, h2, this]
theorem ofInt_nat (n : Int) (h : 0 ≤ n) : BitVec.ofInt 64 n = BitVec.ofNat 64 n.toNat := by
  obtain ⟨m, rfl⟩ := Int.eq_ofNat_of_zero_le h
  simp [BitVec.ofInt_natCast]
theorem isP_pow (n : Int) (h : isP n = true) : ∃ j, j ≤ 20 ∧ n = ((2 ^ j : Nat) : Int) := by
  unfold isP at h
  simp only [Bool.and_eq_true, decide_eq_true_eq, beq_iff_eq] at h
  obtain ⟨⟨h1, h2⟩, h3⟩ := h
  rw [W_in (n - 1) (by omega), BitVec.toNat_and, toNat_ofInt (by omega) (by omega), toNat_ofInt (by omega) (by omega)] at h3
  have hle : n.toNat &&& (n - 1).toNat ≤ n.toNat := Nat.and_le_left
  rw [W_in _ (by omega)] at h3
  have h4 : n.toNat &&& (n.toNat - 1) = 0 := by
    rw [show n.toNat - 1 = (n - 1).toNat by omega]; omega
  obtain ⟨j, hj⟩ := pow_of_and n.toNat (by omega) h4
  have hj21 : j < 21 := by
    rcases Nat.lt_or_ge j 21 with h | h
    · exact h
    · have := Nat.pow_le_pow_right (n := 2) (by omega) h
      omega
  exact ⟨j, by omega, by rw [← hj]; omega⟩
def powers : List Int := [1, 2, 4, 8, 16, 32, 64, 128, 256, 512, 1024, 2048, 4096, 8192, 16384, 32768, 65536, 131072, 262144, 524288, 1048576]
theorem powers_isP : (powers.all fun k => isP k) = true := by kernel_rfl
theorem isP_mem {n : Int} (h : isP n = true) : n ∈ powers := by
  obtain ⟨j, hj, rfl⟩ := isP_pow n h
  have : (List.range 21).all (fun j => powers.contains (((2 ^ j : Nat)) : Int)) = true := by decide
  have := List.all_eq_true.mp this j (by simp; omega)
  simpa using this

/-! extents -/
def isX (s z : Int) : Bool := decide (0 ≤ s ∧ s ≤ 1048576 ∧ 1 ≤ z ∧ s + z ≤ 1048576)
theorem sub_in (s : Int) : ¬ (0 ≤ s ∧ s ≤ 1048576) ∨ W (1048576 - s) = 1048576 - s := by
  by_cases h : 0 ≤ s ∧ s ≤ 1048576
  · exact .inr (W_in _ (by omega))
  · exact .inl h
def F12 : List AV → Option (T AV)
  | [.agg [.int .i64 s, .int .i64 z]] => some (.br (isX s z) (.leaf (i 0)) (.leaf (i 2)))
  | _ => none
theorem t12 (s z : Int) : symF Try.prog noU (hy [(12, [5, 9,14,22])] [] [] []) 300 (stt Try.prog 12 [ext s z]) =
  (.br (decide (s < 0))
    (.leaf (.fin (.int .i64 (2))))
    (.br (decide (z < 1))
      (.leaf (.fin (.int .i64 (2))))
      (.br (decide (s > 1048576))
        (.leaf (.fin (.int .i64 (2))))
        (.br (decide (z > W (1048576 - s)))
          (.leaf (.fin (.int .i64 (2))))
          (.leaf (.fin (.int .i64 (0)))))))) := by kernel_rfl
theorem c12 : FnSpec Try.prog 12 F12 := by
  intro a t h
  unfold F12 at h
  split at h
  · rename_i s z
    simp only [Option.some.injEq] at h; subst h
    refine fnSpec_br ⟨fun h => ?_, fun h => ?_⟩
    all_goals
      refine fn_of_fin G0 (by kernel_rfl) (t12 s z) ?_
      have hs := sub_in s
      simp only [isX, decide_eq_true_eq, decide_eq_false_iff_not] at h
      simp only [T.Wp, EndLv, decide_eq_true_eq, decide_eq_false_iff_not]; (repeat' first | apply And.intro | intro _) <;> first | rfl | trivial | (exfalso; omega)
  · cases h
def F13 : List AV → Option (T AV)
  | [.agg [.int .i64 s, .int .i64 z]] => some (.leaf (.bool (isX s z)))
  | _ => none
theorem t13 (s z : Int) : symF Try.prog noU (hy [(13, [5, 9,14])] [] [] []) 300 (stt Try.prog 13 [ext s z]) =
  (.br (decide (s ≥ 0))
    (.br (decide (s ≤ 1048576))
      (.br (decide (z ≥ 1))
        (.leaf (.fin (.bool (decide (z ≤ W (1048576 - s))))))
        (.leaf (.fin (.bool (false)))))
      (.leaf (.fin (.bool (false)))))
    (.leaf (.fin (.bool (false))))) := by kernel_rfl
theorem c13 : FnSpec Try.prog 13 F13 := by
  intro a t h
  unfold F13 at h
  split at h
  · rename_i s z
    simp only [Option.some.injEq] at h; subst h
    refine fnSpec_br (t := .leaf _) ?_
    refine fn_of_fin G0 (by kernel_rfl) (t13 s z) ?_
    have hs := sub_in s
    unfold isX
    simp only [T.Wp, EndLv, decide_eq_true_eq, decide_eq_false_iff_not]; (repeat' first | apply And.intro | intro _) <;> (congr 1; rw [eq_comm]; first | (rw [decide_eq_false_iff_not]; omega) | (rw [decide_eq_decide]; omega))
  · cases h
def F29 : List AV → Option (T AV)
  | [.int .i64 n] => some (.leaf (.bool (isP n)))
  | _ => none
def powT (n : Int) (l : List Int) : T Lv := l.foldr (fun k t => .br (k == n) (.leaf (.fin (.bool true))) t) (.leaf (.fin (.bool false)))
theorem t29 (n : Int) : symF Try.prog noU (hy [(29, [10])] [] [] []) 2000 (stt Try.prog 29 [i n]) = powT n powers := by kernel_rfl
theorem powT_wp {Q : AV → Prop} {n : Int} : ∀ {l : List Int}, (n ∈ l → Q (.bool true)) → (n ∉ l → Q (.bool false)) → (powT n l).Wp (EndLv Try.prog Q)
  | [], _, h => h (by simp)
  | k :: l, h1, h2 => ⟨fun h => h1 (by simp at h; simp [h]), fun h => powT_wp (fun h' => h1 (by simp [h'])) (fun h' => h2 (by simp at h; simp [h', Ne.symm h]))⟩
theorem c29 : FnSpec Try.prog 29 F29 := by
  intro a t h
  unfold F29 at h
  split at h
  · rename_i n
    simp only [Option.some.injEq] at h; subst h
    refine fnSpec_br (t := .leaf _) ?_
    refine fn_of_fin G0 (by kernel_rfl) (t29 n) ?_
    refine powT_wp (fun h => ?_) (fun h => ?_)
    · rw [List.all_eq_true.mp powers_isP n h]
    · cases h3 : isP n with
      | false => rfl
      | true => exact absurd (isP_mem h3) h
  · cases h
end
end Go.Proofs.Ytkbfhpahjloidaa
