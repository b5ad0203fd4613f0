/- Own text of this claim: an abstract machine over the given program form, and what follows from it. No condition. -/
import Derived.Test.YtkbfhpahjloidaaG9
set_option linter.unusedVariables false
set_option linter.unusedSimpArgs false
namespace Go.Proofs.Ytkbfhpahjloidaa
open Go Go.EV
noncomputable section
section
variable (s z w k : Int) (n m : Nat) (l p q : Nat → Int) (full full' : Bool)
theorem t4 : symF Try.prog U3 (hy [(4, [25,29,68,72,78,83,88,94,103])] [] [] []) 500 (stt Try.prog 4 [ext s z, i w, i k, .ls n (fun j => [i (l j)]) 1 full, prs m p q full']) =
  (.br (decide ((n : Int) > 60))
    (.leaf (.fin (.bool (true))))
    (.br (decide ((m : Int) > 60))
      (.leaf (.fin (.bool (true))))
      (.ck (8 * (0 + n + 1000) * 4 ≤ 2 ^ 47)
      (.ck (ext s z = ext s z)
      (.ck (∀ (k : Nat), k < n → FreeL [i (l (addZ 0 k))])
      (.ck (isI n fun j => [i (l j)])
      (.ck (isI n fun j => [i (l j)])
      (.br (pA s z w k == pA s z w k && (pB s z w k == pB s z w k && true))
        (.br (pC s z w k == pC s z w k)
          (.br (code s z w k == code s z w k)
            (.ck (isI2 (mN s z w n l) (fun k => [i (cvS s (wt s w l k) (l k)), i (l k)]) (fun k => cvS s (wt s w l k) (l k)) l ∧ isI2 (mN s z w n l) (fun k => [i (cvS s (wt s w l k) (l k)), i (l k)]) (fun k => cvS s (wt s w l k) (l k)) l)
            (.br (Nat.beq (mN s z w n l) (mN s z w n l) && sameB (fun k => cvS s (wt s w l k) (l k)) l (fun k => cvS s (wt s w l k) (l k)) l (mN s z w n l))
              (.br (mW s z w n l == mW s z w n l)
                (.br (er s z w l n == er s z w l n)
                  (.ck (16 * (0 + m + 1000) * 4 ≤ 2 ^ 47)
                  (.ck (∀ (k : Nat), k < m → FreeL [i (p (addZ 0 k)), i (q (addZ 0 k))])
                  (.ck (isI2 m (fun k => [i (p k), i (q k)]) p q)
                  (.ck (isI2 m (fun k => [i (p k), i (q k)]) p q)
                  (.br (ap p q m == ap p q m)
                    (.leaf (.fin (.bool (true))))
                    (.leaf (.fin (.bool (false)))))))))
                  (.leaf (.fin (.bool (false)))))
                (.leaf (.fin (.bool (false)))))
              (.leaf (.fin (.bool (false))))))
            (.leaf (.fin (.bool (false)))))
          (.leaf (.fin (.bool (false)))))
        (.leaf (.fin (.bool (false)))))))))))) := by kernel_rfl
end
theorem sameB_rfl (p q : Nat → Int) : ∀ n, sameB p q p q n = true
  | 0 => rfl
  | n + 1 => by unfold sameB; rw [sameB_rfl p q n]; simp
theorem mN_le (s z w : Int) (n : Nat) (l : Nat → Int) : mN s z w n l ≤ n := by
  unfold mN
  cases (er s z w l n == 0)
  · exact Nat.zero_le _
  · exact Nat.le_refl _
theorem c4 (s z w k : Int) (n m : Nat) (l p q : Nat → Int) (full full' : Bool) : FnCall Try.prog 4 [ext s z, i w, i k, .ls n (fun j => [i (l j)]) 1 full, prs m p q full'] (.bool true) := by
  refine fn_of_fin G3 (by kernel_rfl) (t4 s z w k n m l p q full full') ⟨fun h => rfl, fun h => ⟨fun h2 => rfl, fun h2 => ?_⟩⟩
  simp only [decide_eq_false_iff_not] at h h2
  have hi : isI n fun j => [i (l j)] := ⟨by omega, fun j _ => rfl⟩
  have hm := mN_le s z w n l
  have hp : isI2 (mN s z w n l) (fun k => [i (cvS s (wt s w l k) (l k)), i (l k)]) (fun k => cvS s (wt s w l k) (l k)) l := ⟨by omega, fun j _ => rfl⟩
  have hq : isI2 m (fun k => [i (p k), i (q k)]) p q := ⟨by omega, fun j _ => rfl⟩
  refine ⟨by omega, rfl, fun k _ => FreeL.of rfl, hi, hi, fun _ => ⟨fun _ => ⟨fun _ => ⟨⟨hp, hp⟩, fun _ => ⟨fun _ => ⟨fun _ => ⟨by omega, fun k _ => FreeL.of rfl, hq, hq, fun _ => rfl, fun h => ?_⟩, fun h => ?_⟩, fun h => ?_⟩, fun h => ?_⟩, fun h => ?_⟩, fun h => ?_⟩, fun h => ?_⟩
  all_goals simp [sameB_rfl] at h
end
end Go.Proofs.Ytkbfhpahjloidaa
