/- Own text of this claim: an abstract machine over the given program form, and what follows from it. No condition. -/
import Derived.Test.YtkbfhpahjloidaaG5
set_option linter.unusedVariables false
set_option linter.unusedSimpArgs false
namespace Go.Proofs.Ytkbfhpahjloidaa
open Go Go.EV
noncomputable section
def y24 (j : Nat) : Hy := hy [(24, [19])] [(24, [(2, [1,2,3,9,10,11])])] [(24, [(21, i ((j + 1 : Nat) : Int))])] [(24, [40])]
def td24 : List AItem := todoL (symF Try.prog U2 (y24 0) 300 (stt Try.prog 24 [ext 0 0, i 0, .ls 1 (fun j => [i 0]) 1 false])) 0
def S24 (s z w : Int) (n : Nat) (l : Nat → Int) (full : Bool) (a : Int) (F : Nat → List AV) (j : Nat) : AM :=
  hd 24 44 [(1, i w), (2, .ls n (fun j => [i (l j)]) 1 full), (3, .ptr 8 0), (9, .es 9 0 j none 2), (10, i a), (11, i j)] td24 [.row 2 [i s, i z] .nil, .els 2 j F]
section
variable (s z w : Int) (n : Nat) (l : Nat → Int) (full : Bool)
theorem e24 : symF Try.prog U2 (y24 0) 300 (stt Try.prog 24 [ext s z, i w, .ls n (fun j => [i (l j)]) 1 full]) =
  (.br (decide (0 < (n : Int)))
    (.ck (0 ≤ (0 : Int) ∧ 0 < (n : Int))
    (.br (okc s z w (l 0))
      (.br (decide (cvW s w (l 0) ≤ z))
        (.ck (16 * (0 + 1 + 1000) * 4 ≤ 2 ^ 47)
        (.ck (i (W (0 + 1)) = i ((0 + 1 : Nat) : Int))
        (.ck (FreeE 2 1 (chunkE 2 [i (cvS s w (l 0)), i (l 0)]) ∧ True)
        (.leaf (.to (S24 s z w n l full (cvW s w (l 0)) (chunkE 2 [i (cvS s w (l 0)), i (l 0)]) 1))))))
        (.leaf (.fin (.tup [.nilsl, i w, i 5]))))
      (.leaf (.fin (.tup [.nilsl, i w, i 2])))))
    (.leaf (.fin (.tup [.nilsl, i w, i 0])))) := by kernel_rfl
theorem t24 (a : Int) (p q : Nat → Int) (j : Nat) : symF Try.prog U2 (y24 j) 300 (S24 s z w n l full a (fun k => [i (p k), i (q k)]) j) =
  (.br (decide ((j : Int) < (n : Int)))
    (.ck (0 ≤ (j : Int) ∧ (j : Int) < (n : Int))
    (.br (okc s z a (l j))
      (.br (decide (cvW s a (l j) ≤ z))
        (.ck (16 * (j + 1 + 1000) * 4 ≤ 2 ^ 47)
        (.ck (i (W ((j : Int) + 1)) = i ((j + 1 : Nat) : Int))
        (.ck (FreeE 2 (j + 1) (catE j (fun k => [i (p (addZ 0 k)), i (q (addZ 0 k))]) (chunkE 2 [i (cvS s a (l j)), i (l j)])) ∧ True)
        (.leaf (.to (S24 s z w n l full (cvW s a (l j)) (catE j (fun k => [i (p (addZ 0 k)), i (q (addZ 0 k))]) (chunkE 2 [i (cvS s a (l j)), i (l j)])) (j + 1)))))))
        (.leaf (.fin (.tup [.nilsl, i w, i 5]))))
      (.leaf (.fin (.tup [.nilsl, i w, i 2])))))
    (.ck (∀ (k : Nat), k < j → FreeL [i (p (addZ 0 k)), i (q (addZ 0 k))])
    (.leaf (.fin (.tup [.ls j (fun k => [i (p (addZ 0 k)), i (q (addZ 0 k))]) 2 false, i a, i 0]))))) := by kernel_rfl
end
/-- one pair more -/
theorem catE_pair (p q : Nat → Int) (j : Nat) (x y : Int) {k : Nat} (hk : k < j + 1) : catE j (fun k => [i (p (addZ 0 k)), i (q (addZ 0 k))]) (chunkE 2 [i x, i y]) k = [i (bif Nat.beq k j then x else p k), i (bif Nat.beq k j then y else q k)] := by
  unfold catE
  by_cases h : k = j
  · subst h
    rw [bltF (by omega)]
    simp [chunkE]
  · rw [bltT (by omega)]
    have : Nat.beq k j = false := by
      cases hb : Nat.beq k j with
      | false => rfl
      | true => exact absurd (Nat.eq_of_beq_eq_true hb) h
    rw [this]; rfl
section
variable {s z w : Int} {n : Nat} {l : Nat → Int} {full : Bool}
theorem loop24 (hn : n ≤ 1000) : ∀ (d j : Nat) (p q : Nat → Int), j + d = n → er s z w l j = 0 → (∀ k, k < j → p k = cvS s (wt s w l k) (l k) ∧ q k = l k) →
    EndsF Try.prog (S24 s z w n l full (wt s w l j) (fun k => [i (p k), i (q k)]) j) (fun v => Like v (manyV s z w n l))
  | 0, j, p, q, hd, he, hp => by
    obtain rfl : j = n := by omega
    refine endsF_of G2 (t24 s z w j l full (wt s w l j) p q j) ⟨fun h => ?_, fun h => ⟨fun k _ => free_pair p q _, ?_⟩⟩
    · simp at h
    · refine like_many he fun k hk => ?_
      rw [addZ0, (hp k hk).1, (hp k hk).2]
  | d + 1, j, p, q, hd, he, hp => by
    have hj : j < n := by omega
    refine endsF_of G2 (t24 s z w n l full (wt s w l j) p q j) ⟨fun h => ⟨by omega, fun h1 => ⟨fun h2 => ?_, fun h2 => ?_⟩, fun h1 => ?_⟩, fun h => ?_⟩
    · simp only [decide_eq_true_eq] at h2
      refine ⟨by omega, i_eq (W_succ hj (by omega)), ⟨FreeE.of (by decide) fun k hk => by rw [catE_pair p q j _ _ hk]; exact FreeL.of rfl, trivial⟩, ?_⟩
      refine EndsF.els (by kernel_rfl) (.same _ (.els (by decide) (fun k hk => catE_pair p q j _ _ hk) .nil)) ?_
      refine loop24 hn d (j + 1) _ _ (by omega) (er_succ he (code_ok h1 h2)) fun k hk => ?_
      by_cases e : k = j
      · subst e; simp
      · have : Nat.beq k j = false := by
          cases hb : Nat.beq k j with
          | false => rfl
          | true => exact absurd (Nat.eq_of_beq_eq_true hb) e
        rw [this]
        exact hp k (by omega)
    · simp only [decide_eq_false_iff_not] at h2
      show Like _ _
      rw [many_bad (by decide) (er_end (by decide) he hj (code_full h1 h2))]
      exact Like.rfl
    · show Like _ _
      rw [many_bad (by decide) (er_end (by decide) he hj (code_bad h1))]
      exact Like.rfl
    · simp only [decide_eq_false_iff_not] at h; omega
theorem start24 (hn : n ≤ 1000) : EndsF Try.prog (stt Try.prog 24 [ext s z, i w, .ls n (fun j => [i (l j)]) 1 full]) (fun v => Like v (manyV s z w n l)) := by
  refine endsF_of G2 (e24 s z w n l full) ⟨fun h => ⟨by simp at h; omega, fun h1 => ⟨fun h2 => ?_, fun h2 => ?_⟩, fun h1 => ?_⟩, fun h => ?_⟩
  · simp only [decide_eq_true_eq] at h h2
    refine ⟨by omega, i_eq (W_succ (j := 0) (n := n) (by omega) (by omega)), ⟨FreeE.of (by decide) fun k hk => ?_, trivial⟩, ?_⟩
    · obtain rfl : k = 0 := by omega
      exact FreeL.of rfl
    · refine EndsF.els (by kernel_rfl) (.same _ (.els (f' := fun k => [i (cvS s w (l 0)), i (l 0)]) (by decide) (fun k hk => by
        obtain rfl : k = 0 := by omega
        rfl) .nil)) ?_
      refine loop24 (full := full) hn (n - 1) 1 (fun _ => cvS s w (l 0)) (fun _ => l 0) (by omega) (er_succ rfl (code_ok h1 h2)) fun k hk => ?_
      obtain rfl : k = 0 := by omega
      exact ⟨rfl, rfl⟩
  · simp only [decide_eq_true_eq, decide_eq_false_iff_not] at h h2
    show Like _ _
    rw [many_bad (by decide) (er_end (j := 0) (by decide) rfl (by omega) (code_full h1 h2))]
    exact Like.rfl
  · simp only [decide_eq_true_eq] at h
    show Like _ _
    rw [many_bad (by decide) (er_end (j := 0) (by decide) rfl (by omega) (code_bad h1))]
    exact Like.rfl
  · obtain rfl : n = 0 := by simp at h; omega
    show Like _ _
    rw [many_ok rfl]
    exact Like.tup (likes_cons Like.nilsl (likes_cons Like.rfl (likes_cons Like.rfl likes_nil)))
end
theorem c24 : FnSpec Try.prog 24 F23 := many_spec fun s z w n l full hn => by
  obtain ⟨v, h1, h2⟩ := fn_of_endsF (by kernel_rfl) (start24 (s := s) (z := z) (w := w) (l := l) (full := full) hn)
  exact h2.like h1
end
end Go.Proofs.Ytkbfhpahjloidaa
