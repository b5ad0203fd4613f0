/- Own text of this claim: an abstract machine over the given program form, and what follows from it. No condition. -/
import Derived.Test.YtkbfhpahjloidaaG2
set_option linter.unusedVariables false
set_option linter.unusedSimpArgs false
namespace Go.Proofs.Ytkbfhpahjloidaa
open Go Go.EV
noncomputable section
def al (t n : Int) : Int := (t + n - 1) / n * n
def U1 : USum := addV (addV (addV (addV noU 28 F28) 12 F12) 13 F13) 29 F29
theorem G1 : GoodU Try.prog U1 := (((G0.addV c28).addV c12).addV c13).addV c29
def F14 : List AV → Option (T AV)
  | [.int .i64 t, .int .i64 n] => some (.br (decide (0 ≤ t ∧ t ≤ 1048576) && isP n) (.leaf (i (al t n))) (.leaf (i 0)))
  | _ => none
theorem t14 (t n : Int) : symF Try.prog U1 (hy [(14, [6, 9,13])] [] [] []) 300 (stt Try.prog 14 [i t, i n]) =
  (.br (decide (t < 0))
    (.leaf (.fin (.int .i64 (0))))
    (.br (decide (t > 1048576))
      (.leaf (.fin (.int .i64 (0))))
      (.br (isP n)
        (.leaf (.fin (.int .i64 (W (↑(BitVec.ofInt 64 (W (W (t + n) - 1)) &&& ~~~BitVec.ofInt 64 (W (n - 1))).toNat : Int)))))
        (.leaf (.fin (.int .i64 (0))))))) := by kernel_rfl
theorem al_eq (t n : Int) (h0 : 0 ≤ t) (h1 : t ≤ 1048576) (hn : isP n = true) : W (↑(BitVec.ofInt 64 (W (W (t + n) - 1)) &&& ~~~BitVec.ofInt 64 (W (n - 1))).toNat : Int) = al t n := by
  obtain ⟨j, hj, rfl⟩ := isP_pow n hn
  have hp : 2 ^ j ≤ 2 ^ 20 := Nat.pow_le_pow_right (by omega) hj
  have hp1 : 1 ≤ 2 ^ j := Nat.one_le_two_pow
  rw [W_in (t + _) (by omega), W_in (t + _ - 1) (by omega), W_in (((2 ^ j : Nat) : Int) - 1) (by omega), ofInt_nat _ (by omega), ofInt_nat _ (by omega)]
  rw [show (t + ((2 ^ j : Nat) : Int) - 1).toNat = t.toNat + 2 ^ j - 1 by omega, show (((2 ^ j : Nat) : Int) - 1).toNat = 2 ^ j - 1 by omega]
  rw [clear_low _ j (by omega) (by omega)]
  have : (t.toNat + 2 ^ j - 1) / 2 ^ j * 2 ^ j ≤ t.toNat + 2 ^ j - 1 := Nat.div_mul_le_self _ _
  rw [W_in _ (by omega)]
  unfold al
  rw [show t + ((2 ^ j : Nat) : Int) - 1 = ((t.toNat + 2 ^ j - 1 : Nat) : Int) by omega]
  norm_cast
theorem c14 : FnSpec Try.prog 14 F14 := by
  intro a t h
  unfold F14 at h
  split at h
  · rename_i t n
    simp only [Option.some.injEq] at h; subst h
    refine fnSpec_br ⟨fun h => ?_, fun h => ?_⟩
    · refine fn_of_fin G1 (by kernel_rfl) (t14 t n) ?_
      simp only [Bool.and_eq_true, decide_eq_true_eq] at h
      obtain ⟨⟨h1, h2⟩, h3⟩ := h
      rw [al_eq t n h1 h2 h3, h3]
      simp only [T.Wp, EndLv, decide_eq_true_eq, decide_eq_false_iff_not]; (repeat' first | apply And.intro | intro _) <;> first | rfl | trivial | (exfalso; omega)
    · refine fn_of_fin G1 (by kernel_rfl) (t14 t n) ?_
      simp only [T.Wp, EndLv, decide_eq_true_eq, decide_eq_false_iff_not]
      refine ⟨fun _ => trivial, fun h1 => ⟨fun _ => trivial, fun h2 => ⟨fun h3 => ?_, fun _ => trivial⟩⟩⟩
      rw [h3, decide_eq_true (show 0 ≤ t ∧ t ≤ 1048576 by omega)] at h
      cases h
  · cases h
theorem al_bd {t n : Int} (h0 : 0 ≤ t) (h1 : t ≤ 1048576) (hn : isP n = true) : 1 ≤ n ∧ n ≤ 1048576 ∧ t ≤ al t n ∧ al t n < t + n ∧ al t n % n = 0 := by
  obtain ⟨j, hj, rfl⟩ := isP_pow n hn
  have hp : 2 ^ j ≤ 2 ^ 20 := Nat.pow_le_pow_right (by omega) hj
  have hp1 : 1 ≤ 2 ^ j := Nat.one_le_two_pow
  have hq : (0 : Int) < ((2 ^ j : Nat) : Int) := by omega
  have e1 := Int.mul_ediv_add_emod (t + ((2 ^ j : Nat) : Int) - 1) ((2 ^ j : Nat) : Int)
  have e2 := Int.emod_nonneg (t + ((2 ^ j : Nat) : Int) - 1) (show ((2 ^ j : Nat) : Int) ≠ 0 by omega)
  have e3 := Int.emod_lt_of_pos (t + ((2 ^ j : Nat) : Int) - 1) hq
  unfold al
  refine ⟨by omega, by omega, ?_, ?_, ?_⟩
  · rw [Int.mul_comm] at e1
    omega
  · rw [Int.mul_comm] at e1
    omega
  · exact Int.mul_emod_left _ _
theorem al_unique {t n x : Int} (hn : 0 < n) (h0 : t ≤ x) (h1 : x < t + n) (h2 : x % n = 0) (y : Int) (g0 : t ≤ y) (g1 : y < t + n) (g2 : y % n = 0) : x = y := by
  have e1 := Int.mul_ediv_add_emod x n
  have e2 := Int.mul_ediv_add_emod y n
  rw [h2, Int.add_zero] at e1
  rw [g2, Int.add_zero] at e2
  have h3 : n * (x / n - y / n) < n * 1 := by rw [Int.mul_sub]; omega
  have h4 : n * (y / n - x / n) < n * 1 := by rw [Int.mul_sub]; omega
  have h5 := Int.lt_of_mul_lt_mul_left h3 (by omega)
  have h6 := Int.lt_of_mul_lt_mul_left h4 (by omega)
  have : x / n = y / n := by omega
  rw [← e1, ← e2, this]
theorem t15 (t n : Int) : symF Try.prog U1 (hy [(15, [6,9,13,19])] [] [] []) 300 (stt Try.prog 15 [i t, i n]) =
  (.br (decide (t < 0))
    (.leaf (.fin (.int .i64 (0))))
    (.br (decide (t > 1048576))
      (.leaf (.fin (.int .i64 (0))))
      (.br (isP n)
        (.ck (n ≠ 0)
        (.br (t.tmod n == 0)
          (.leaf (.fin (.int .i64 (t))))
          (.ck (n ≠ 0)
          (.leaf (.fin (.int .i64 (W (W (t - t.tmod n) + n))))))))
        (.leaf (.fin (.int .i64 (0))))))) := by kernel_rfl
theorem c15 : FnSpec Try.prog 15 F14 := by
  intro a t h
  unfold F14 at h
  split at h
  · rename_i t n
    simp only [Option.some.injEq] at h; subst h
    refine fnSpec_br ⟨fun h => ?_, fun h => ?_⟩
    · refine fn_of_fin G1 (by kernel_rfl) (t15 t n) ?_
      simp only [Bool.and_eq_true, decide_eq_true_eq] at h
      obtain ⟨⟨h1, h2⟩, h3⟩ := h
      obtain ⟨g1, g2, g3, g4, g5⟩ := al_bd h1 h2 h3
      have e2 := Int.emod_nonneg t (show n ≠ 0 by omega)
      have e3 := Int.emod_lt_of_pos t (show 0 < n by omega)
      have e4 := Int.mul_ediv_add_emod t n
      rw [Int.tmod_eq_emod_of_nonneg h1, W_in (t - t % n) (by omega), W_in _ (by omega)]
      have u1 : t % n = 0 → t = al t n := fun h => al_unique (t := t) (n := n) (by omega) (by omega) (by omega) h _ g3 g4 g5
      have u2 : t % n ≠ 0 → t - t % n + n = al t n := fun h => al_unique (t := t) (n := n) (by omega) (by omega) (by omega) (by rw [Int.add_emod_right, Int.sub_emod, Int.emod_emod, Int.sub_self]; simp) _ g3 g4 g5
      simp only [T.Wp, EndLv, decide_eq_true_eq, decide_eq_false_iff_not, beq_iff_eq, beq_eq_false_iff_ne]
      refine ⟨fun _ => ?_, fun _ => ⟨fun _ => ?_, fun _ => ⟨fun _ => ⟨by omega, fun hz => ?_, fun hz => ⟨by omega, ?_⟩⟩, fun q => ?_⟩⟩⟩
      · omega
      · omega
      · exact congrArg i (u1 hz)
      · exact congrArg i (u2 hz)
      · rw [h3] at q; cases q
    · refine fn_of_fin G1 (by kernel_rfl) (t15 t n) ?_
      simp only [T.Wp, EndLv, decide_eq_true_eq, decide_eq_false_iff_not]
      refine ⟨fun _ => trivial, fun h1 => ⟨fun _ => trivial, fun h2 => ⟨fun h3 => ?_, fun _ => trivial⟩⟩⟩
      rw [h3, decide_eq_true (show 0 ≤ t ∧ t ≤ 1048576 by omega)] at h
      cases h
  · cases h

/-! pieces -/
def okc (s z w n : Int) : Bool := isX s z && isP n && decide (0 ≤ w ∧ w ≤ z)
def cvS (s w n : Int) : Int := al (s + w) n
def cvW (s w n : Int) : Int := cvS s w n - s + n
def F21 : List AV → Option (T AV)
  | [.agg [.int .i64 s, .int .i64 z], .int .i64 w, .int .i64 n] => some (.br (okc s z w n) (.br (decide (cvW s w n ≤ z)) (.leaf (.tup [ext (cvS s w n) n, i (cvW s w n), i 0])) (.leaf (.tup [ext 0 0, i w, i 5]))) (.leaf (.tup [ext 0 0, i w, i 2])))
  | _ => none
theorem t21 (s z w n : Int) : symF Try.prog (addV U1 14 F14) (hy [(21, [12,16,21,27,36,46])] [] [] []) 500 (stt Try.prog 21 [ext s z, i w, i n]) =
  (.br (isX s z)
    (.br (isP n)
      (.br (decide (w < 0))
        (.leaf (.fin (.tup [ext 0 0, i w, i 2])))
        (.br (decide (w > z))
          (.leaf (.fin (.tup [ext 0 0, i w, i 2])))
          (.br (decide (0 ≤ W (s + w) ∧ W (s + w) ≤ 1048576) && isP n)
            (.br (decide (W (W (al (W (s + w)) n - s) + n) > z))
              (.leaf (.fin (.tup [ext 0 0, i w, i 5])))
              (.leaf (.fin (.tup [ext (al (W (s + w)) n) n, i (W (W (al (W (s + w)) n - s) + n)), i 0]))))
            (.br (decide (W (W (0 - s) + n) > z))
              (.leaf (.fin (.tup [ext 0 0, i w, i 5])))
              (.leaf (.fin (.tup [ext 0 n, i (W (W (0 - s) + n)), i 0])))))))
      (.leaf (.fin (.tup [ext 0 0, i w, i 2]))))
    (.leaf (.fin (.tup [ext 0 0, i w, i 2])))) := by kernel_rfl
theorem okc_of {s z w n : Int} (h : okc s z w n = true) : isX s z = true ∧ isP n = true ∧ 0 ≤ s ∧ s ≤ 1048576 ∧ 1 ≤ z ∧ s + z ≤ 1048576 ∧ 0 ≤ w ∧ w ≤ z := by
  unfold okc at h
  simp only [Bool.and_eq_true, decide_eq_true_eq] at h
  obtain ⟨⟨h1, h2⟩, h3⟩ := h
  have := h1
  unfold isX at this
  simp only [decide_eq_true_eq] at this
  exact ⟨h1, h2, this.1, this.2.1, this.2.2.1, this.2.2.2, h3⟩
theorem okc_not {s z w n : Int} (h : okc s z w n = false) (h1 : isX s z = true) (h2 : isP n = true) : ¬ (0 ≤ w ∧ w ≤ z) := by
  unfold okc at h
  rw [h1, h2] at h
  simpa using h
theorem c21 : FnSpec Try.prog 21 F21 := by
  intro a t h
  unfold F21 at h
  split at h
  · rename_i s z w n
    simp only [Option.some.injEq] at h; subst h
    refine fnSpec_br ⟨fun h => ?_, fun h => ?_⟩
    · obtain ⟨h1, h2, h3, h4, h5, h6, h7, h8⟩ := okc_of h
      have a1 := al_bd (t := s + w) (n := n) (by omega) (by omega) h2
      have e := t21 s z w n
      rw [h1, h2, W_in (s + w) (by omega), W_in (al (s + w) n - s) (by omega), W_in (al (s + w) n - s + n) (by omega), decide_eq_true (show 0 ≤ s + w ∧ s + w ≤ 1048576 by omega)] at e
      refine ⟨fun g => ?_, fun g => ?_⟩
      all_goals
        refine fn_of_fin (G1.addV c14) (by kernel_rfl) e ?_
        simp only [decide_eq_true_eq, decide_eq_false_iff_not] at g
        unfold cvW cvS at g
        simp only [T.Wp, EndLv, decide_eq_true_eq, decide_eq_false_iff_not]
        refine ⟨fun _ => ⟨fun _ => ⟨fun _ => ?_, fun _ => ⟨fun _ => ?_, fun _ => ⟨fun _ => ⟨fun _ => ?_, fun _ => ?_⟩, fun q => ?_⟩⟩⟩, fun q => ?_⟩, fun q => ?_⟩
        all_goals first | rfl | trivial | (exfalso; omega) | cases q
    · refine fn_of_fin (G1.addV c14) (by kernel_rfl) (t21 s z w n) ?_
      simp only [T.Wp, EndLv, decide_eq_true_eq, decide_eq_false_iff_not]
      refine ⟨fun q1 => ⟨fun q2 => ⟨fun _ => ?_, fun _ => ⟨fun _ => ?_, fun _ => ?_⟩⟩, fun q => ?_⟩, fun q => ?_⟩
      all_goals first | rfl | trivial | skip
      have := okc_not h q1 q2
      omega
  · cases h
end
end Go.Proofs.Ytkbfhpahjloidaa
