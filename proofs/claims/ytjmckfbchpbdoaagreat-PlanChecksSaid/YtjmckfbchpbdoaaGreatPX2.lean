/- Own text of this claim: an abstract machine over the given program form, and what follows from it. No condition. -/
import Derived.Test.YtjmckfbchpbdoaaGreatPX1
set_option linter.unusedVariables false
set_option linter.unusedSimpArgs false
namespace Go.Proofs.YtjmckfbchpbdoaaGreat
open Go Go.EV
noncomputable section
abbrev want (k c n r f m k' ri ba ty si va : Int) (a b : Int) : AV := .agg [i k, i c, i n, i r, i f, i m, i k', .int .u64 a, .int .u64 b, i ri, i ba, i ty, i si, i va]
def isW (k c n r f m : Int) : Bool := decide (0 ≤ k ∧ k ≤ 2 ∧ 1 ≤ n ∧ n ≤ 31 ∧ 0 ≤ c ∧ c < n ∧ 0 ≤ r ∧ r < 56 ∧ -1 ≤ f ∧ f < 56 ∧ 0 ≤ m ∧ m ≤ 8)
def F7b : List AV → Option (T AV)
  | [.agg [.int .i64 k, .int .i64 c, .int .i64 n, .int .i64 r, .int .i64 f, .int .i64 m, _, _, _, _, _, _, _, _]] => some (.ck (isW k c n r f m = false) (.leaf (i 2)))
  | _ => none
abbrev W (n : Int) : Int := IntKind.i64.wrap n
theorem W_in (n : Int) (h : -9223372036854775808 ≤ n ∧ n < 9223372036854775808) : W n = n := by
  unfold W IntKind.wrap
  simp only [IntKind.signed, IntKind.bits]
  simp only [show ((2 : Int) ^ 64) = 18446744073709551616 by decide, show ((2 : Int) ^ (64 - 1)) = 9223372036854775808 by decide]
  simp
  split <;> omega
theorem i_eq {a b : Int} (h : a = b) : i a = i b := by rw [h]
theorem W_succ {j n : Nat} (h : j < n) (hn : n ≤ 1000000) : W ((j : Int) + 1) = ((j + 1 : Nat) : Int) := by
  rw [W_in _ (by omega)]; rfl
section
variable (k c n r f m k' ri ba ty si va a b : Int)
theorem t5 : symF Tryz.prog noU (hy [(5, [5,9,14,19,24,31,36,41,46,51,56])] [] [] []) 500 (stt Tryz.prog 5 [want k c n r f m k' ri ba ty si va a b]) =
  chainT [decide (k ≥ 0), decide (k ≤ 2), decide (n ≥ 1), decide (n ≤ 31), decide (c ≥ 0), decide (c < n), decide (r ≥ 0), decide (r < 56), decide (f ≥ -1), decide (f < 56), decide (m ≥ 0)] (.leaf (.fin (.bool (decide (m ≤ 8))))) (.leaf (.fin (.bool false))) := by kernel_rfl
theorem t7 : symF Tryz.prog noU (hy [(7, [6,10,15,20,25,32,37,41,46,51,56,61])] [] [] []) 500 (stt Tryz.prog 7 [want k c n r f m k' ri ba ty si va a b]) =
  orT [decide (k < 0), decide (k > 2), decide (n < 1), decide (n > 31), decide (c < 0), decide (c ≥ n), decide (r < 0), decide (r ≥ 56), decide (f < -1), decide (f ≥ 56), decide (m < 0), decide (m > 8)] (.leaf (.fin (i 0))) (.leaf (.fin (i 2))) := by kernel_rfl
end
def F5 : List AV → Option (T AV)
  | [.agg [.int .i64 k, .int .i64 c, .int .i64 n, .int .i64 r, .int .i64 f, .int .i64 m, .int .i64 k', .int .u64 a, .int .u64 b, .int .i64 ri, .int .i64 ba, .int .i64 ty, .int .i64 si, .int .i64 va]] => some (.leaf (.bool (isW k c n r f m)))
  | _ => none
def F7 : List AV → Option (T AV)
  | [.agg [.int .i64 k, .int .i64 c, .int .i64 n, .int .i64 r, .int .i64 f, .int .i64 m, .int .i64 k', .int .u64 a, .int .u64 b, .int .i64 ri, .int .i64 ba, .int .i64 ty, .int .i64 si, .int .i64 va]] => some (.leaf (i (bif isW k c n r f m then 0 else 2)))
  | _ => none
def F7c : List AV → Option (T AV)
  | [.agg [.int .i64 k, .int .i64 c, .int .i64 n, .int .i64 r, .int .i64 f, .int .i64 m, .int .i64 k', .int .u64 a, .int .u64 b, .int .i64 ri, .int .i64 ba, .int .i64 ty, .int .i64 si, .int .i64 va]] => some (.ck (isW k c n r f m = false) (.leaf (i 2)))
  | _ => none
theorem c5 : FnSpec Tryz.prog 5 F5 := by
  intro w t h
  unfold F5 at h
  split at h
  · rename_i k c n r f m k' a b ri ba ty si va
    simp only [Option.some.injEq] at h; subst h
    refine fnSpec_br (t := .leaf _) ?_
    refine fn_of_fin G0 (by kernel_rfl) (t5 k c n r f m k' ri ba ty si va a b) (chainT_wp (fun h => ?_) (fun h => ?_))
    · simp only [List.all_cons, List.all_nil, id, Bool.and_true, Bool.and_eq_true, decide_eq_true_eq] at h
      refine congrArg AV.bool ?_
      unfold isW
      rw [decide_eq_decide]
      omega
    · rw [Bool.eq_false_iff] at h
      simp only [List.all_cons, List.all_nil, id, Bool.and_true, Bool.and_eq_true, decide_eq_true_eq, ne_eq] at h
      refine congrArg AV.bool ?_
      unfold isW
      rw [eq_comm, decide_eq_false_iff_not]
      omega
  · cases h
theorem wp7 {Q : AV → Prop} (k c n r f m : Int) (h1 : isW k c n r f m = true → Q (i 0)) (h2 : isW k c n r f m = false → Q (i 2)) :
    (orT [decide (k < 0), decide (k > 2), decide (n < 1), decide (n > 31), decide (c < 0), decide (c ≥ n), decide (r < 0), decide (r ≥ 56), decide (f < -1), decide (f ≥ 56), decide (m < 0), decide (m > 8)] (.leaf (.fin (i 0))) (.leaf (.fin (i 2)))).Wp (EndLv Tryz.prog Q) := by
  refine orT_wp (fun h => h1 ?_) (fun h => h2 ?_)
  · simp only [List.any_cons, List.any_nil, id, Bool.or_false, Bool.or_eq_false_iff, decide_eq_false_iff_not] at h
    unfold isW
    rw [decide_eq_true_eq]
    omega
  · simp only [List.any_cons, List.any_nil, id, Bool.or_false, Bool.or_eq_true, decide_eq_true_eq] at h
    unfold isW
    rw [decide_eq_false_iff_not]
    omega
theorem c7 : FnSpec Tryz.prog 7 F7 := by
  intro w t h
  unfold F7 at h
  split at h
  · rename_i k c n r f m k' a b ri ba ty si va
    simp only [Option.some.injEq] at h; subst h
    refine fnSpec_br (t := .leaf _) ?_
    refine fn_of_fin G0 (by kernel_rfl) (t7 k c n r f m k' ri ba ty si va a b) (wp7 k c n r f m (fun h => ?_) (fun h => ?_)) <;> rw [h] <;> rfl
  · cases h
theorem c7c : FnSpec Tryz.prog 7 F7c := by
  intro w t h
  unfold F7c at h
  split at h
  · rename_i k c n r f m k' a b ri ba ty si va
    simp only [Option.some.injEq] at h; subst h
    rintro v ⟨hw, hv⟩
    have h1 := c7 [want k c n r f m k' ri ba ty si va a b] _ rfl v
    rw [hw] at h1
    exact h1 hv
  · cases h
end
end Go.Proofs.YtjmckfbchpbdoaaGreat
