/- Own text of this claim: an abstract machine over the given program form, and what follows from it. No condition. -/
import Derived.Test.YtkbfhpahjloidaaC2
set_option linter.unusedVariables false
namespace Go.Proofs.Ytkbfhpahjloidaa
open Go Go.EV

/-! the two Sizes -/
def sizeOf' (ok : Bool) (k n : Int) : Int × Int :=
  bif k == 2 then (64, 0) else bif k == 3 then (16, 0) else bif k == 4 then (4, 0) else bif k == 5 then (4, 0) else bif (k == 1) && ok then (n, 0) else (0, 2)
def sizeA (a b c d e ok : Bool) (n : Int) : AV :=
  bif a then .tup [i 64, i 0] else bif b then .tup [i 16, i 0] else bif c then .tup [i 4, i 0] else bif d then .tup [i 4, i 0] else bif e && ok then .tup [i n, i 0] else .tup [i 0, i 2]
theorem run9 (k n : Int) (a b c d e f : Bool) : runV Try.prog S2 9 [i k, i n] (tell 9 [(8, a), (10, b), (12, c), (13, d), (15, e), (18, f)]) 8 =
    some (sizeA a b c d (!e) f n, logOf [(true, k == 2, a), (!a, k == 3, b), (!a && !b, k == 4, c), (!a && !b && !c, k == 5, d), (!a && !b && !c && !d, k != 1, e), (!a && !b && !c && !d && !e, isP n, f)] []) := by
  cases a <;> cases b <;> cases c <;> cases d <;> cases e <;> cases f <;> kernel_rfl
theorem run10 (k n : Int) (a b c d e f : Bool) : runV Try.prog S2 10 [i k, i n] (tell 10 [(8, a), (10, b), (12, c), (13, d), (15, e), (17, f)]) 8 =
    some (sizeA a b c d e f n, logOf [(true, k == 2, a), (!a, k == 3, b), (!a && !b, k == 4, c), (!a && !b && !c, k == 5, d), (!a && !b && !c && !d, k == 1, e), (!a && !b && !c && !d && e, pow n, f)] []) := by
  cases a <;> cases b <;> cases c <;> cases d <;> cases e <;> cases f <;> kernel_rfl
def sz (ok : Bool) (k n : Int) : AV := .tup [i (sizeOf' ok k n).1, i (sizeOf' ok k n).2]
theorem sizeA_eq (ok : Bool) (k n : Int) : sizeA (k == 2) (k == 3) (k == 4) (k == 5) (k == 1) ok n = sz ok k n := by
  unfold sizeA sz sizeOf'
  cases (k == 2) <;> cases (k == 3) <;> cases (k == 4) <;> cases (k == 5) <;> cases ((k == 1) && ok) <;> rfl
def F9 : List AV → Option AV
  | [.int .i64 k, .int .i64 n] => some (sz (isP n) k n)
  | _ => none
def F10 : List AV → Option AV
  | [.int .i64 k, .int .i64 n] => some (sz (pow n) k n)
  | _ => none
theorem c9 : ∀ args v, F9 args = some v → PureCall Try.prog 9 args v := by
  intro args v h
  unfold F9 at h
  split at h
  · rename_i k n
    simp only [Option.some.injEq] at h; subst h
    have := run9 k n (k == 2) (k == 3) (k == 4) (k == 5) (k != 1) (isP n)
    rw [show (!(k != 1)) = (k == 1) from by cases h : (k == 1) <;> simp [bne, h], sizeA_eq] at this
    exact pure_of_runV G2 this (by simp) rfl rfl
  · cases h
theorem c10 : ∀ args v, F10 args = some v → PureCall Try.prog 10 args v := by
  intro args v h
  unfold F10 at h
  split at h
  · rename_i k n
    simp only [Option.some.injEq] at h; subst h
    have := run10 k n (k == 2) (k == 3) (k == 4) (k == 5) (k == 1) (pow n)
    rw [sizeA_eq] at this
    exact pure_of_runV G2 this (by simp) rfl rfl
  · cases h

/-! the two Aligns -/
def alC (t n : Int) : Int := W (BitVec.ofInt 64 (W (W (t + n) - 1)) &&& ~~~(BitVec.ofInt 64 (W (n - 1)))).toNat
theorem run14 (t n : Int) (a b c : Bool) : runV Try.prog S2 14 [i t, i n] (tell 14 [(6, a), (9, b), (13, c)]) 7 =
    some (i (bif a || b || !c then 0 else alC t n), logOf [(true, decide (t < 0), a), (!a, decide (t > sp), b), (!a && !b, isP n, c)] []) := by
  cases a <;> cases b <;> cases c <;> kernel_rfl
def alignC (t n : Int) : Int := bif decide (t < 0) || decide (t > sp) || !isP n then 0 else alC t n
def F14 : List AV → Option AV
  | [.int .i64 t, .int .i64 n] => some (i (alignC t n))
  | _ => none
theorem c14 : ∀ args v, F14 args = some v → PureCall Try.prog 14 args v := by
  intro args v h
  unfold F14 at h
  split at h
  · simp only [Option.some.injEq] at h; subst h
    exact pure_of_runV G2 (run14 _ _ _ _ _) (by simp) rfl rfl
  · cases h

def alR (t n : Int) : Int := bif t.tmod n == 0 then t else W (W (t - t.tmod n) + n)
theorem run15f (t n : Int) (a b c : Bool) (h : (a || b || !c) = true) : runV Try.prog S2 15 [i t, i n] (tell 15 [(6, a), (9, b), (13, c)]) 7 =
    some (i 0, logOf [(true, decide (t < 0), a), (!a, decide (t > sp), b), (!a && !b, pow n, c)] []) := by
  revert h
  cases a <;> cases b <;> cases c <;> intro h <;> first | exact absurd h (by decide) | kernel_rfl
theorem run15t (t : Int) (d : Bool) : (powers.map fun k => runV Try.prog S2 15 [i t, i k] (tell 15 [(6, false), (9, false), (13, true), (19, d)]) 7) =
    powers.map fun k => some (i (bif d then t else W (W (t - t.tmod k) + k)), logOf [(true, decide (t < 0), false), (true, decide (t > sp), false), (true, pow k, true), (true, t.tmod k == 0, d)] []) := by
  cases d <;> kernel_rfl
def alignR (t n : Int) : Int := bif decide (t < 0) || decide (t > sp) || !pow n then 0 else alR t n
def F15 : List AV → Option AV
  | [.int .i64 t, .int .i64 n] => some (i (alignR t n))
  | _ => none
theorem pow_mem {n : Int} (h : pow n = true) : n ∈ powers := by
  unfold pow at h
  rw [List.any_eq_true] at h
  obtain ⟨k, hk, he⟩ := h
  have : k = n := by simpa using he
  exact this ▸ hk
theorem c15 : ∀ args v, F15 args = some v → PureCall Try.prog 15 args v := by
  intro args v h
  unfold F15 at h
  split at h
  · rename_i t n
    simp only [Option.some.injEq] at h; subst h
    unfold alignR
    cases hc : (decide (t < 0) || decide (t > sp) || !pow n)
    · simp only [cond_false]
      simp only [Bool.or_eq_false_iff, Bool.not_eq_false'] at hc
      have := List.map_inj_left.mp (run15t t (t.tmod n == 0)) n (pow_mem hc.2)
      exact pure_of_runV G2 this (by simp [hc.1.1, hc.1.2, hc.2]) rfl rfl
    · simp only [cond_true]
      exact pure_of_runV G2 (run15f t n (decide (t < 0)) (decide (t > sp)) (pow n) hc) (by simp) rfl rfl
  · cases h

/-! live -/
theorem run20 : runV Try.prog noSum 20 [] noHint 12 = some (.bool true, logOf [] []) := by kernel_rfl
def F20 : List AV → Option AV
  | [] => some (.bool true)
  | _ => none
theorem c20 : ∀ args v, F20 args = some v → PureCall Try.prog 20 args v := by
  intro args v h
  unfold F20 at h
  split at h
  · simp only [Option.some.injEq] at h; subst h
    exact pure_of_runV G0 run20 (by simp) rfl rfl
  · cases h

noncomputable def S3 : Sum := (((((((((S2.add 16 F16).add 17 F16).add 18 F18).add 19 F19).add 9 F9).add 10 F10).add 14 F14).add 15 F15).add 11 F11).add 20 F20
theorem G3 : EV.Good Try.prog S3 := (((((((((G2.add c16 (by kernel_rfl)).add c17 (by kernel_rfl)).add c18 (by kernel_rfl)).add c19 (by kernel_rfl)).add c9 (by kernel_rfl)).add c10 (by kernel_rfl)).add c14 (by kernel_rfl)).add c15 (by kernel_rfl)).add c11 (by kernel_rfl)).add c20 (by kernel_rfl)
end Go.Proofs.Ytkbfhpahjloidaa
