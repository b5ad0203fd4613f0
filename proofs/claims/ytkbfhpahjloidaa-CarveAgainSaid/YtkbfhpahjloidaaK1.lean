/- Own text of this claim: an abstract machine over the given program form, and what follows from it. No condition. -/
import Derived.Test.YtkbfhpahjloidaaEvU
import Derived.IntWalk
import Derived.Test.YtkbfhpahjloidaaProg
set_option linter.unusedVariables false
set_option linter.unusedSimpArgs false
namespace Go.Proofs.Ytkbfhpahjloidaa
open Go Go.EV
noncomputable section
abbrev i (n : Int) : AV := .int .i64 n
abbrev ext (s z : Int) : AV := .agg [i s, i z]
abbrev W (n : Int) : Int := IntKind.i64.wrap n
abbrev sp : Int := 1048576

theorem no_num : (Try.prog.funcs.toList.all fun fn => !(fn.name == "runtime.NumGoroutine")) = true := by kernel_rfl
theorem mixed : Try.prog.follows .mixedOrders = true := by kernel_rfl
theorem G0 : EV.Good Try.prog noSum := good_none no_num mixed

theorem W_in (n : Int) (h : -9223372036854775808 ≤ n ∧ n ≤ 9223372036854775807) : W n = n := IntWalk.i64_in n h
theorem gt_i (a b : Int) : iLt b a = decide (a > b) := by rw [iLt_eq]
theorem le_i (a b : Int) : (!iLt b a) = decide (a ≤ b) := by rw [iLt_eq, Bool.eq_iff_iff]; simp
theorem ge_i (a b : Int) : (!iLt a b) = decide (a ≥ b) := by rw [iLt_eq, Bool.eq_iff_iff]; simp

/-! isSize -/
theorem run28 (n : Int) (a b : Bool) : runV Try.prog noSum 28 [i n] (tell 28 [(4, a), (7, b)]) 6 =
    some (.bool (a && b && iEq (W (BitVec.ofInt 64 n &&& BitVec.ofInt 64 (W (n - 1))).toNat) 0), logOf [(true, iLt 0 n, a), (a, !iLt sp n, b)] []) := by
  cases a <;> cases b <;> kernel_rfl
def isP (n : Int) : Bool := iLt 0 n && !iLt sp n && iEq (W (BitVec.ofInt 64 n &&& BitVec.ofInt 64 (W (n - 1))).toNat) 0
def F28 : List AV → Option AV
  | [.int .i64 n] => some (.bool (isP n))
  | _ => none
theorem c28 : ∀ args v, F28 args = some v → PureCall Try.prog 28 args v := by
  intro args v h
  unfold F28 at h
  split at h
  · simp only [Option.some.injEq] at h; subst h
    exact pure_of_runV G0 (run28 _ _ _) (by simp) rfl rfl
  · cases h

/-! Check -/
theorem run12 (s z : Int) (a b c d : Bool) : runV Try.prog noSum 12 [ext s z] (tell 12 [(5, a), (9, b), (14, c), (22, d)]) 6 =
    some (i (bif a || b || c || d then 2 else 0), logOf [(true, iLt s 0, a), (!a, iLt z 1, b), (!a && !b, iLt sp s, c), (!a && !b && !c, iLt (W (sp - s)) z, d)] []) := by
  cases a <;> cases b <;> cases c <;> cases d <;> kernel_rfl
def bad (s z : Int) : Bool := iLt s 0 || iLt z 1 || iLt sp s || iLt (W (sp - s)) z
def F12 : List AV → Option AV
  | [.agg [.int .i64 s, .int .i64 z]] => some (i (bif bad s z then 2 else 0))
  | _ => none
theorem c12 : ∀ args v, F12 args = some v → PureCall Try.prog 12 args v := by
  intro args v h
  unfold F12 at h
  split at h
  · simp only [Option.some.injEq] at h; subst h
    exact pure_of_runV G0 (run12 _ _ _ _ _ _) (by simp) rfl rfl
  · cases h

/-! num -/
theorem run11 (n : Int) : runV Try.prog noSum 11 [i n] noHint 5 = some (i n, logOf [] []) := by kernel_rfl
def F11 : List AV → Option AV
  | [.int .i64 n] => some (i n)
  | _ => none
theorem c11 : ∀ args v, F11 args = some v → PureCall Try.prog 11 args v := by
  intro args v h
  unfold F11 at h
  split at h
  · simp only [Option.some.injEq] at h; subst h
    exact pure_of_runV G0 (run11 _) (by simp) rfl rfl
  · cases h
def S1 : Sum := ((noSum.add 28 F28).add 12 F12).add 11 F11
theorem G1 : EV.Good Try.prog S1 := ((G0.add c28 (by kernel_rfl)).add c12 (by kernel_rfl)).add c11 (by kernel_rfl)

/-! both -/
def isE (s z : Int) : Bool := iEq (bif bad s z then (2 : Int) else 0) 0
theorem run30 (s z s' z' : Int) (a b : Bool) : runV Try.prog S1 30 [ext s z, ext s' z'] (tell 30 [(7, a), (11, b)]) 6 =
    some (.bool (a && b), logOf [(true, isE s z, a), (a, isE s' z', b)] []) := by
  cases a <;> cases b <;> kernel_rfl
def F30 : List AV → Option AV
  | [.agg [.int .i64 s, .int .i64 z], .agg [.int .i64 s', .int .i64 z']] => some (.bool (isE s z && isE s' z'))
  | _ => none
theorem c30 : ∀ args v, F30 args = some v → PureCall Try.prog 30 args v := by
  intro args v h
  unfold F30 at h
  split at h
  · simp only [Option.some.injEq] at h; subst h
    exact pure_of_runV G1 (run30 _ _ _ _ _ _) (by simp) rfl rfl
  · cases h

/-! Align -/
def alC (t n : Int) : Int := W (BitVec.ofInt 64 (W (W (t + n) - 1)) &&& ~~~(BitVec.ofInt 64 (W (n - 1)))).toNat
theorem run14 (t n : Int) (a b c : Bool) : runV Try.prog S1 14 [i t, i n] (tell 14 [(6, a), (9, b), (13, c)]) 7 =
    some (i (bif a || b || !c then 0 else alC t n), logOf [(true, iLt t 0, a), (!a, iLt sp t, b), (!a && !b, isP n, c)] []) := by
  cases a <;> cases b <;> cases c <;> kernel_rfl
def alignC (t n : Int) : Int := bif iLt t 0 || iLt sp t || !isP n then 0 else alC t n
def F14 : List AV → Option AV
  | [.int .i64 t, .int .i64 n] => some (i (alignC t n))
  | _ => none
theorem c14 : ∀ args v, F14 args = some v → PureCall Try.prog 14 args v := by
  intro args v h
  unfold F14 at h
  split at h
  · simp only [Option.some.injEq] at h; subst h
    exact pure_of_runV G1 (run14 _ _ _ _ _) (by simp) rfl rfl
  · cases h
def S2 : Sum := (S1.add 30 F30).add 14 F14
theorem G2 : EV.Good Try.prog S2 := (G1.add c30 (by kernel_rfl)).add c14 (by kernel_rfl)

/-! Inside, Meet -/
def inside (s z s' z' : Int) : Bool := isE s z && isE s' z' && !iLt s s' && !iLt (W (s' + z')) (W (s + z))
def meetC (s z s' z' : Int) : Bool := isE s z && isE s' z' && iLt (mm2 true s s') (mm2 false (W (s + z)) (W (s' + z')))
theorem run16 (s z s' z' : Int) (a b : Bool) : runV Try.prog S2 16 [ext s z, ext s' z'] (tell 16 [(8, a), (13, b)]) 7 =
    some (.bool (a && b && !iLt (W (s' + z')) (W (s + z))), logOf [(true, isE s z && isE s' z', a), (a, !iLt s s', b)] []) := by
  cases a <;> cases b <;> kernel_rfl
theorem run18 (s z s' z' : Int) (a : Bool) : runV Try.prog S2 18 [ext s z, ext s' z'] (tell 18 [(8, a)]) 7 =
    some (.bool (a && iLt (mm2 true s s') (mm2 false (W (s + z)) (W (s' + z')))), logOf [(true, isE s z && isE s' z', a)] []) := by
  cases a <;> kernel_rfl
def F16 : List AV → Option AV
  | [.agg [.int .i64 s, .int .i64 z], .agg [.int .i64 s', .int .i64 z']] => some (.bool (inside s z s' z'))
  | _ => none
def F18 : List AV → Option AV
  | [.agg [.int .i64 s, .int .i64 z], .agg [.int .i64 s', .int .i64 z']] => some (.bool (meetC s z s' z'))
  | _ => none
theorem c16 : ∀ args v, F16 args = some v → PureCall Try.prog 16 args v := by
  intro args v h
  unfold F16 at h
  split at h
  · simp only [Option.some.injEq] at h; subst h
    exact pure_of_runV G2 (run16 _ _ _ _ _ _) (by simp) rfl rfl
  · cases h
theorem c18 : ∀ args v, F18 args = some v → PureCall Try.prog 18 args v := by
  intro args v h
  unfold F18 at h
  split at h
  · simp only [Option.some.injEq] at h; subst h
    exact pure_of_runV G2 (run18 _ _ _ _ _) (by simp) rfl rfl
  · cases h

/-! Carve -/
def carveA (r f : Bool) (s z w n : Int) : AV :=
  bif r then .tup [ext 0 0, i w, i 2] else bif f then .tup [ext 0 0, i w, i 5] else .tup [ext (alignC (W (s + w)) n) n, i (W (W (alignC (W (s + w)) n - s) + n)), i 0]
theorem run21 (s z w n : Int) (a b c d e : Bool) : runV Try.prog S2 21 [ext s z, i w, i n] (tell 21 [(13, a), (16, b), (21, c), (27, d), (46, e)]) 7 =
    some (carveA (a || !b || c || d) e s z w n, logOf [(true, !isE s z, a), (!a, isP n, b), (!a && b, iLt w 0, c), (!a && b && !c, iLt z w, d), (!a && b && !c && !d, iLt z (W (W (alignC (W (s + w)) n - s) + n)), e)] []) := by
  cases a <;> cases b <;> cases c <;> cases d <;> cases e <;> kernel_rfl
def ref (s z w n : Int) : Bool := !isE s z || !isP n || iLt w 0 || iLt z w
def full (s z w n : Int) : Bool := iLt z (W (W (alignC (W (s + w)) n - s) + n))
/-- what a piece is, the water behind it, the error -/
def pS (s z w n : Int) : Int := bif ref s z w n || full s z w n then 0 else alignC (W (s + w)) n
def pZ (s z w n : Int) : Int := bif ref s z w n || full s z w n then 0 else n
def pW (s z w n : Int) : Int := bif ref s z w n || full s z w n then w else W (W (alignC (W (s + w)) n - s) + n)
def pE (s z w n : Int) : Int := bif ref s z w n then 2 else bif full s z w n then 5 else 0
theorem carve_eq (s z w n : Int) : carveA (ref s z w n) (full s z w n) s z w n = .tup [ext (pS s z w n) (pZ s z w n), i (pW s z w n), i (pE s z w n)] := by
  unfold carveA pS pZ pW pE
  cases ref s z w n <;> cases full s z w n <;> rfl
def F21 : List AV → Option AV
  | [.agg [.int .i64 s, .int .i64 z], .int .i64 w, .int .i64 n] => some (.tup [ext (pS s z w n) (pZ s z w n), i (pW s z w n), i (pE s z w n)])
  | _ => none
theorem c21 : ∀ args v, F21 args = some v → PureCall Try.prog 21 args v := by
  intro args v h
  unfold F21 at h
  split at h
  · rename_i s z w n
    simp only [Option.some.injEq] at h; subst h
    have := run21 s z w n (!isE s z) (isP n) (iLt w 0) (iLt z w) (full s z w n)
    rw [show (!isE s z || !isP n || iLt w 0 || iLt z w) = ref s z w n from rfl, carve_eq] at this
    exact pure_of_runV G2 this (by simp [full]) rfl rfl
  · cases h

/-! live -/
theorem live_run : liveT Try.prog noSum 20 11 = true := by kernel_rfl
def F20 : List AV → Option AV
  | [] => some (.bool true)
  | _ => none
theorem c20 : ∀ args v, F20 args = some v → PureCall Try.prog 20 args v := by
  intro args v h
  unfold F20 at h
  split at h
  · simp only [Option.some.injEq] at h; subst h
    exact pure_of_true G0 live_run
  · cases h
def S3 : Sum := (((S2.add 16 F16).add 18 F18).add 21 F21).add 20 F20
theorem G3 : EV.Good Try.prog S3 := (((G2.add c16 (by kernel_rfl)).add c18 (by kernel_rfl)).add c21 (by kernel_rfl)).add c20 (by kernel_rfl)
end
end Go.Proofs.Ytkbfhpahjloidaa
