/- Own text of this claim: an abstract machine over the given program form, and what follows from it. No condition. -/
import Derived.Test.YtkbfhpahjloidaaG6
set_option linter.unusedVariables false
set_option linter.unusedSimpArgs false
namespace Go.Proofs.Ytkbfhpahjloidaa
open Go Go.EV
noncomputable section
abbrev prs (n : Nat) (p q : Nat → Int) (full : Bool) : AV := .ls n (fun j => [i (p j), i (q j)]) 2 full
/-! are two lists -/
def sameB (p q p' q' : Nat → Int) : Nat → Bool
  | 0 => true
  | j + 1 => sameB p q p' q' j && (p j == p' j && (q j == q' j && true))
def y25 (j : Nat) : Hy := hy [(25, [10,14,25])] [(25, [(2, [0,1,5])])] [(25, [(16, i ((j + 1 : Nat) : Int))])] []
def td25 : List AItem := todoL (symF Try.prog U2 (y25 0) 300 (stt Try.prog 25 [prs 1 (fun _ => 0) (fun _ => 0) false, prs 1 (fun _ => 0) (fun _ => 0) false])) 0
def S25 (n m : Nat) (p q p' q' : Nat → Int) (full full' : Bool) (j : Nat) : AM :=
  hd 25 26 [(0, prs n p q full), (1, prs m p' q' full'), (5, i j)] td25 []
def T25 (n m : Nat) (p q p' q' : Nat → Int) (full full' : Bool) (j : Nat) : T Lv :=
  (.br (decide ((j : Int) < (n : Int)))
    (.ck (0 ≤ (j : Int) ∧ (j : Int) < (n : Int))
    (.ck (0 ≤ (j : Int) ∧ (j : Int) < (m : Int))
    (.br (!(p j == p' j && (q j == q' j && true)))
      (.leaf (.fin (.bool (false))))
      (.ck (i (W ((j : Int) + 1)) = i ((j + 1 : Nat) : Int))
      (.ck (True)
      (.leaf (.to (S25 n m p q p' q' full full' (j + 1)))))))))
    (.leaf (.fin (.bool (true)))))
section
variable (n m : Nat) (p q p' q' : Nat → Int) (full full' : Bool)
theorem e25 : symF Try.prog U2 (y25 0) 300 (stt Try.prog 25 [prs n p q full, prs m p' q' full']) =
  (.br ((n : Int) != (m : Int))
    (.leaf (.fin (.bool (false))))
    (T25 n m p q p' q' full full' 0)) := by kernel_rfl
theorem t25 (j : Nat) : symF Try.prog U2 (y25 j) 300 (S25 n m p q p' q' full full' j) = T25 n m p q p' q' full full' j := by kernel_rfl
end
theorem sameB_false {p q p' q' : Nat → Int} {j : Nat} (h : (p j == p' j && (q j == q' j && true)) = false) : ∀ {n : Nat}, j < n → sameB p q p' q' n = false
  | 0, h2 => by omega
  | n + 1, h2 => by
    unfold sameB
    by_cases e : j = n
    · subst e; rw [h, Bool.and_false]
    · rw [sameB_false h (n := n) (by omega)]; rfl
section
variable {n : Nat} {p q p' q' : Nat → Int} {full full' : Bool}
theorem wp25 (hn : n ≤ 1000) : ∀ (d j : Nat), j + d = n → sameB p q p' q' j = true → (T25 n n p q p' q' full full' j).Wp (EndLv Try.prog (· = .bool (sameB p q p' q' n)))
  | 0, j, hd, hs => by
    obtain rfl : j = n := by omega
    refine ⟨fun h => ?_, fun h => ?_⟩
    · simp at h
    · show AV.bool true = _
      rw [hs]
  | d + 1, j, hd, hs => by
    have hj : j < n := by omega
    refine ⟨fun h => ⟨by omega, by omega, fun h1 => ?_, fun h1 => ⟨i_eq (W_succ hj (by omega)), trivial, ?_⟩⟩, fun h => ?_⟩
    · show AV.bool false = _
      rw [sameB_false (by rw [Bool.not_eq_true'] at h1; exact h1) hj]
    · refine endsF_of G2 (t25 n n p q p' q' full full' (j + 1)) (wp25 hn d (j + 1) (by omega) ?_)
      unfold sameB
      rw [hs]; simpa using h1
    · simp only [decide_eq_false_iff_not] at h; omega
end
def isI2 (n : Nat) (f : Nat → List AV) (p q : Nat → Int) : Prop := n ≤ 1000 ∧ ∀ j, j < n → f j = [i (p j), i (q j)]
def gi2 : List AV → Int
  | [_, .int .i64 n] => n
  | _ => 0
def gi1 : List AV → Int
  | [.int .i64 n, _] => n
  | _ => 0
def F25 : List AV → Option (T AV)
  | [.ls n f 2 full, .ls m g 2 full'] => some (.ck (isI2 n f (fun j => gi1 (f j)) (fun j => gi2 (f j)) ∧ isI2 m g (fun j => gi1 (g j)) (fun j => gi2 (g j)))
      (.leaf (.bool (Nat.beq n m && sameB (fun j => gi1 (f j)) (fun j => gi2 (f j)) (fun j => gi1 (g j)) (fun j => gi2 (g j)) n))))
  | [.nilsl, .nilsl] => some (.leaf (.bool true))
  | [.nilsl, .ls _ _ _ _] => some (.ck False (.leaf (.bool false)))
  | [.ls _ _ _ _, .nilsl] => some (.ck False (.leaf (.bool false)))
  | _ => none
theorem start25 {n m : Nat} {p q p' q' : Nat → Int} {full full' : Bool} (hn : n ≤ 1000) : FnCall Try.prog 25 [prs n p q full, prs m p' q' full'] (.bool (Nat.beq n m && sameB p q p' q' n)) := by
  refine fn_of_fin G2 (by kernel_rfl) (e25 n m p q p' q' full full') ⟨fun h => ?_, fun h => ?_⟩
  · show AV.bool false = _
    have : Nat.beq n m = false := by
      cases hb : Nat.beq n m with
      | false => rfl
      | true =>
        have := Nat.eq_of_beq_eq_true hb
        subst this
        simp at h
    rw [this]; rfl
  · have : n = m := by
      have : (n : Int) = (m : Int) := by simpa using h
      omega
    subst this
    rw [show Nat.beq n n = true by simp]
    exact wp25 hn n 0 (by omega) rfl
theorem nil25 : symF Try.prog U2 (hy [] [] [] []) 300 (stt Try.prog 25 [.nilsl, .nilsl]) = .leaf (.fin (.bool true)) := by kernel_rfl
theorem c25 : FnSpec Try.prog 25 F25 := by
  intro a t h0
  unfold F25 at h0
  split at h0
  · rename_i n f full m g full'
    simp only [Option.some.injEq] at h0; subst h0
    rintro v ⟨⟨h1, h2⟩, hs⟩
    have hs : AV.bool _ = v := hs
    subst hs
    exact FnCall_args (likes_cons (Like.ls h1.2 (fun h => h)) (likes_ls (vs := []) h2.2 (fun h => h))) (start25 (full := full) (full' := full') h1.1)
  · simp only [Option.some.injEq] at h0; subst h0
    intro v hs
    have hs : AV.bool _ = v := hs
    subst hs
    exact fn_of_fin G2 (by kernel_rfl) nil25 rfl
  · simp only [Option.some.injEq] at h0; subst h0
    rintro v ⟨h, _⟩
    exact h.elim
  · simp only [Option.some.injEq] at h0; subst h0
    rintro v ⟨h, _⟩
    exact h.elim
  · cases h0
end
end Go.Proofs.Ytkbfhpahjloidaa
