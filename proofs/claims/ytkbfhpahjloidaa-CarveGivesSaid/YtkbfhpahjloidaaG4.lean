/- Own text of this claim: an abstract machine over the given program form, and what follows from it. No condition. -/
import Derived.Test.YtkbfhpahjloidaaG3
set_option linter.unusedVariables false
set_option linter.unusedSimpArgs false
namespace Go.Proofs.Ytkbfhpahjloidaa
open Go Go.EV
noncomputable section
theorem t22 (s z w n : Int) : symF Try.prog (addV U1 15 F14) (hy [(22, [11,15,20,26,35,44])] [] [] []) 500 (stt Try.prog 22 [ext s z, i w, i n]) =
  (.br (isX s z)
    (.br (isP n)
      (.br (decide (w < 0))
        (.leaf (.fin (.tup [ext 0 0, i w, i 2])))
        (.br (decide (w > z))
          (.leaf (.fin (.tup [ext 0 0, i w, i 2])))
          (.br (decide (0 ≤ W (s + w) ∧ W (s + w) ≤ 1048576) && isP n)
            (.br (decide (W (al (W (s + w)) n + n) > W (s + z)))
              (.leaf (.fin (.tup [ext 0 0, i w, i 5])))
              (.ck (i s = i s)
              (.leaf (.fin (.tup [ext (al (W (s + w)) n) n, i (W (W (al (W (s + w)) n + n) - s)), i 0])))))
            (.br (decide (W (0 + n) > W (s + z)))
              (.leaf (.fin (.tup [ext 0 0, i w, i 5])))
              (.ck (i s = i s)
              (.leaf (.fin (.tup [ext 0 n, i (W (W (0 + n) - s)), i 0]))))))))
      (.leaf (.fin (.tup [ext 0 0, i w, i 2]))))
    (.leaf (.fin (.tup [ext 0 0, i w, i 2])))) := by kernel_rfl
theorem c22 : FnSpec Try.prog 22 F21 := by
  intro a t h
  unfold F21 at h
  split at h
  · rename_i s z w n
    simp only [Option.some.injEq] at h; subst h
    refine fnSpec_br ⟨fun h => ?_, fun h => ?_⟩
    · obtain ⟨h1, h2, h3, h4, h5, h6, h7, h8⟩ := okc_of h
      have a1 := al_bd (t := s + w) (n := n) (by omega) (by omega) h2
      have e := t22 s z w n
      rw [h1, h2, W_in (s + w) (by omega), W_in (s + z) (by omega), W_in (al (s + w) n + n) (by omega), W_in (al (s + w) n + n - s) (by omega), decide_eq_true (show 0 ≤ s + w ∧ s + w ≤ 1048576 by omega), show al (s + w) n + n - s = cvW s w n by unfold cvW cvS; omega] at e
      refine ⟨fun g => ?_, fun g => ?_⟩
      all_goals
        refine fn_of_fin (G1.addV c15) (by kernel_rfl) e ?_
        simp only [decide_eq_true_eq, decide_eq_false_iff_not] at g
        unfold cvW cvS at g
        simp only [T.Wp, EndLv, decide_eq_true_eq, decide_eq_false_iff_not]
        refine ⟨fun _ => ⟨fun _ => ⟨fun _ => ?_, fun _ => ⟨fun _ => ?_, fun _ => ⟨fun _ => ⟨fun _ => ?_, fun _ => ⟨trivial, ?_⟩⟩, fun q => ?_⟩⟩⟩, fun q => ?_⟩, fun q => ?_⟩
        all_goals first | rfl | trivial | (exfalso; omega) | cases q
    · refine fn_of_fin (G1.addV c15) (by kernel_rfl) (t22 s z w n) ?_
      simp only [T.Wp, EndLv, decide_eq_true_eq, decide_eq_false_iff_not]
      refine ⟨fun q1 => ⟨fun q2 => ⟨fun _ => ?_, fun _ => ⟨fun _ => ?_, fun _ => ?_⟩⟩, fun q => ?_⟩, fun q => ?_⟩
      all_goals first | rfl | trivial | skip
      have := okc_not h q1 q2
      omega
  · cases h

/-! to meet -/
def meet (s z s' z' : Int) : Bool := isX s z && isX s' z' && decide (s < s' + z' ∧ s' < s + z)
def F18 : List AV → Option (T AV)
  | [.agg [.int .i64 s, .int .i64 z], .agg [.int .i64 s', .int .i64 z']] => some (.leaf (.bool (meet s z s' z')))
  | _ => none
theorem t18 (s z s' z' : Int) : symF Try.prog U1 (hy [(18, [25]), (30, [6,10])] [] [] []) 500 (stt Try.prog 18 [ext s z, ext s' z']) =
  (.br (isX s z)
    (.br (isX s' z')
      (.br (decide (mm2 true s s' < mm2 false (W (s + z)) (W (s' + z'))))
        (.leaf (.fin (.bool (true))))
        (.leaf (.fin (.bool (false)))))
      (.leaf (.fin (.bool (false)))))
    (.leaf (.fin (.bool (false))))) := by kernel_rfl
theorem t19 (s z s' z' : Int) : symF Try.prog U1 (hy [(19, [6,9,19,29])] [] [] []) 500 (stt Try.prog 19 [ext s z, ext s' z']) =
  (.br (isX s z)
    (.br (isX s' z')
      (.br (decide (s < W (s' + z')))
        (.br (decide (s' < W (s + z)))
          (.leaf (.fin (.bool (true))))
          (.leaf (.fin (.bool (false)))))
        (.leaf (.fin (.bool (false)))))
      (.leaf (.fin (.bool (false)))))
    (.leaf (.fin (.bool (false))))) := by kernel_rfl
theorem isX_of {s z : Int} (h : isX s z = true) : 0 ≤ s ∧ s ≤ 1048576 ∧ 1 ≤ z ∧ s + z ≤ 1048576 := by
  unfold isX at h
  simpa only [decide_eq_true_eq] using h
theorem c18 : FnSpec Try.prog 18 F18 := by
  intro a t h
  unfold F18 at h
  split at h
  · rename_i s z s' z'
    simp only [Option.some.injEq] at h; subst h
    refine fnSpec_br (t := .leaf _) ?_
    refine fn_of_fin G1 (by kernel_rfl) (t18 s z s' z') ?_
    refine ⟨fun h1 => ⟨fun h2 => ?_, fun h2 => ?_⟩, fun h1 => ?_⟩
    · have g1 := isX_of h1
      have g2 := isX_of h2
      rw [W_in (s + z) (by omega), W_in (s' + z') (by omega)]
      have hm : decide (mm2 true s s' < mm2 false (s + z) (s' + z')) = meet s z s' z' := by
        unfold meet
        rw [h1, h2]
        simp only [Bool.true_and, decide_eq_decide]
        unfold mm2
        simp only
        split <;> split <;> omega
      rw [hm]
      exact ⟨fun h => by rw [h]; rfl, fun h => by rw [h]; rfl⟩
    · unfold meet; rw [h1, h2]; rfl
    · unfold meet; rw [h1]; rfl
  · cases h
theorem c19 : FnSpec Try.prog 19 F18 := by
  intro a t h
  unfold F18 at h
  split at h
  · rename_i s z s' z'
    simp only [Option.some.injEq] at h; subst h
    refine fnSpec_br (t := .leaf _) ?_
    refine fn_of_fin G1 (by kernel_rfl) (t19 s z s' z') ?_
    refine ⟨fun h1 => ⟨fun h2 => ?_, fun h2 => ?_⟩, fun h1 => ?_⟩
    · have g1 := isX_of h1
      have g2 := isX_of h2
      rw [W_in (s + z) (by omega), W_in (s' + z') (by omega)]
      unfold meet
      rw [h1, h2]
      refine ⟨fun h3 => ⟨fun h4 => ?_, fun h4 => ?_⟩, fun h3 => ?_⟩
      all_goals
        simp only [decide_eq_true_eq, decide_eq_false_iff_not] at h3
        try simp only [decide_eq_true_eq, decide_eq_false_iff_not] at h4
        refine congrArg AV.bool ?_
        rw [eq_comm]
        simp only [Bool.true_and, decide_eq_true_eq, decide_eq_false_iff_not]
        omega
    · unfold meet; rw [h1, h2]; rfl
    · unfold meet; rw [h1]; rfl
  · cases h
def U2 : USum := addV (addV (addV (addV (addV U1 14 F14) 21 F21) 22 F21) 18 F18) 19 F18
theorem G2 : GoodU Try.prog U2 := ((((G1.addV c14).addV c21).addV c22).addV c18).addV c19
end
end Go.Proofs.Ytkbfhpahjloidaa
