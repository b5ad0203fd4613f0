/- Own text of this claim: an abstract machine over the given program form, and what follows from it. No condition. -/
import Derived.Test.YtggpbcgkjalepaaEvS
import Derived.Test.YtggpbcgkjalepaaProg
set_option linter.unusedVariables false
namespace Go.Proofs.Ytggpbcgkjalepaa
open Go Go.EV
noncomputable section
abbrev i (n : Int) : AV := .int .i64 n
abbrev key (s z : Int) : AV := .agg [i s, i z]
abbrev W (n : Int) : Int := IntKind.i64.wrap n

theorem no_num : (Try.prog.funcs.toList.all fun fn => !(fn.name == "runtime.NumGoroutine")) = true := by kernel_rfl
theorem mixed : Try.prog.follows .mixedOrders = true := by kernel_rfl
theorem G0 : EV.Good Try.prog noSum := good_none no_num mixed

theorem lt_swap (n k : Int) : iLt k n = !iLt n (k + 1) := by
  rw [iLt_eq, iLt_eq, Bool.eq_iff_iff]; simp; omega

/-! Code -/
theorem run7 (o s : Int) (a b c d : Bool) : runV Try.prog noSum 7 [key o s] (tell 7 [(5, a), (9, b), (14, c), (19, d)]) 6 =
    some (i (bif a || b || c || d then 0 else W (W (W (8 * o) + s) + 1)), logOf [(true, iLt o 0, a), (!a, !iLt o 56, b), (!a && !b, iLt s 0, c), (!a && !b && !c, !iLt s 8, d)] []) := by
  cases a <;> cases b <;> cases c <;> cases d <;> kernel_rfl
theorem run8 (o s : Int) (a b c d : Bool) : runV Try.prog noSum 8 [key o s] (tell 8 [(5, a), (9, b), (14, c), (19, d)]) 6 =
    some (i (bif a || b || c || d then 0 else W (W (W (8 * o) + s) + 1)), logOf [(true, iLt o 0, a), (!a, !iLt o 56, b), (!a && !b, iLt s 0, c), (!a && !b && !c, !iLt s 8, d)] []) := by
  cases a <;> cases b <;> cases c <;> cases d <;> kernel_rfl
def noKey (o s : Int) : Bool := iLt o 0 || !iLt o 56 || iLt s 0 || !iLt s 8
def codeOf (o s : Int) : Int := bif noKey o s then 0 else W (W (W (8 * o) + s) + 1)
def F7 : List AV → Option AV
  | [.agg [.int .i64 o, .int .i64 s]] => some (i (codeOf o s))
  | _ => none
theorem c7 : ∀ args v, F7 args = some v → PureCall Try.prog 7 args v := by
  intro args v h
  unfold F7 at h
  split at h
  · simp only [Option.some.injEq] at h; subst h
    exact pure_of_runV G0 (run7 _ _ _ _ _ _) (by simp) rfl rfl
  · cases h
theorem c8 : ∀ args v, F7 args = some v → PureCall Try.prog 8 args v := by
  intro args v h
  unfold F7 at h
  split at h
  · simp only [Option.some.injEq] at h; subst h
    exact pure_of_runV G0 (run8 _ _ _ _ _ _) (by simp) rfl rfl
  · cases h

/-! Object -/
theorem run10 (o f : Int) (a b c d : Bool) : runV Try.prog noSum 10 [i o, i f] (tell 10 [(6, a), (9, b), (13, c), (17, d)]) 6 =
    some (i (bif a || b || c || d then -1 else W (W (64 * o) + f)), logOf [(true, iLt o 0, a), (!a, !iLt o 56, b), (!a && !b, iLt f 0, c), (!a && !b && !c, !iLt f 16, d)] []) := by
  cases a <;> cases b <;> cases c <;> cases d <;> kernel_rfl
theorem run11 (o f : Int) (a b c d : Bool) : runV Try.prog noSum 11 [i o, i f] (tell 11 [(6, a), (9, b), (13, c), (17, d)]) 6 =
    some (i (bif a || b || c || d then -1 else W (W (64 * o) + f)), logOf [(true, iLt o 0, a), (!a, !iLt o 56, b), (!a && !b, iLt f 0, c), (!a && !b && !c, iLt 15 f, d)] []) := by
  cases a <;> cases b <;> cases c <;> cases d <;> kernel_rfl
def objOf (o f : Int) : Int := bif iLt o 0 || !iLt o 56 || iLt f 0 || !iLt f 16 then -1 else W (W (64 * o) + f)
def F10 : List AV → Option AV
  | [.int .i64 o, .int .i64 f] => some (i (objOf o f))
  | _ => none
theorem c10 : ∀ args v, F10 args = some v → PureCall Try.prog 10 args v := by
  intro args v h
  unfold F10 at h
  split at h
  · simp only [Option.some.injEq] at h; subst h
    exact pure_of_runV G0 (run10 _ _ _ _ _ _) (by simp) rfl rfl
  · cases h
theorem c11 : ∀ args v, F10 args = some v → PureCall Try.prog 11 args v := by
  intro args v h
  unfold F10 at h
  split at h
  · rename_i o f
    simp only [Option.some.injEq] at h; subst h
    exact pure_of_runV G0 (run11 o f (iLt o 0) (!iLt o 56) (iLt f 0) (!iLt f 16)) (by simp [lt_swap f 15]) rfl rfl
  · cases h

/-! Core -/
theorem run14 (o f : Int) (a b c d : Bool) : runV Try.prog noSum 14 [i o, i f] (tell 14 [(6, a), (9, b), (13, c), (17, d)]) 6 =
    some (i (bif a || b || c || d then -1 else W (W (3584 + W (16 * o)) + f)), logOf [(true, iLt o 0, a), (!a, !iLt o 31, b), (!a && !b, iLt f 0, c), (!a && !b && !c, !iLt f 16, d)] []) := by
  cases a <;> cases b <;> cases c <;> cases d <;> kernel_rfl
theorem run15 (o f : Int) (a b c d : Bool) : runV Try.prog noSum 15 [i o, i f] (tell 15 [(6, a), (9, b), (13, c), (17, d)]) 6 =
    some (i (bif a || b || c || d then -1 else W (W (3584 + W (16 * o)) + f)), logOf [(true, iLt o 0, a), (!a, !iLt o 31, b), (!a && !b, iLt f 0, c), (!a && !b && !c, iLt 15 f, d)] []) := by
  cases a <;> cases b <;> cases c <;> cases d <;> kernel_rfl
def coreOf (o f : Int) : Int := bif iLt o 0 || !iLt o 31 || iLt f 0 || !iLt f 16 then -1 else W (W (3584 + W (16 * o)) + f)
def F14 : List AV → Option AV
  | [.int .i64 o, .int .i64 f] => some (i (coreOf o f))
  | _ => none
theorem c14 : ∀ args v, F14 args = some v → PureCall Try.prog 14 args v := by
  intro args v h
  unfold F14 at h
  split at h
  · simp only [Option.some.injEq] at h; subst h
    exact pure_of_runV G0 (run14 _ _ _ _ _ _) (by simp) rfl rfl
  · cases h
theorem c15 : ∀ args v, F14 args = some v → PureCall Try.prog 15 args v := by
  intro args v h
  unfold F14 at h
  split at h
  · rename_i o f
    simp only [Option.some.injEq] at h; subst h
    exact pure_of_runV G0 (run15 o f (iLt o 0) (!iLt o 31) (iLt f 0) (!iLt f 16)) (by simp [lt_swap f 15]) rfl rfl
  · cases h

/-! num, Key -/
theorem run9 (n : Int) : runV Try.prog noSum 9 [i n] noHint 5 = some (i n, logOf [] []) := by kernel_rfl
def F9 : List AV → Option AV
  | [.int .i64 n] => some (i n)
  | _ => none
theorem c9 : ∀ args v, F9 args = some v → PureCall Try.prog 9 args v := by
  intro args v h
  unfold F9 at h
  split at h
  · simp only [Option.some.injEq] at h; subst h
    exact pure_of_runV G0 (run9 _) (by simp) rfl rfl
  · cases h
def keyA (z : Bool) (c : Int) : AV := .tup [key (bif z then 0 else W ((W (c - 1)).tdiv 8)) (bif z then 0 else (W (c - 1)).tmod 8), i (bif z then 2 else 0)]
theorem run5 (c : Int) (a b : Bool) : runV Try.prog noSum 5 [i c] (tell 5 [(6, a), (9, b)]) 6 =
    some (keyA (a || b) c, logOf [(true, iLt c 1, a), (!a, iLt 448 c, b)] []) := by
  cases a <;> cases b <;> kernel_rfl
theorem run6 (c : Int) (a b : Bool) : runV Try.prog noSum 6 [i c] (tell 6 [(5, a), (8, b)]) 6 =
    some (keyA (a || b) c, logOf [(true, iLt c 1, a), (!a, iLt 448 c, b)] []) := by
  cases a <;> cases b <;> kernel_rfl
def F5 : List AV → Option AV
  | [.int .i64 c] => some (keyA (iLt c 1 || iLt 448 c) c)
  | _ => none
theorem c5 : ∀ args v, F5 args = some v → PureCall Try.prog 5 args v := by
  intro args v h
  unfold F5 at h
  split at h
  · simp only [Option.some.injEq] at h; subst h
    exact pure_of_runV G0 (run5 _ _ _) (by simp) rfl rfl
  · cases h
theorem c6 : ∀ args v, F5 args = some v → PureCall Try.prog 6 args v := by
  intro args v h
  unfold F5 at h
  split at h
  · simp only [Option.some.injEq] at h; subst h
    exact pure_of_runV G0 (run6 _ _ _) (by simp) rfl rfl
  · cases h

def S1 : Sum := ((((((((noSum.add 5 F5).add 6 F5).add 7 F7).add 8 F7).add 9 F9).add 10 F10).add 11 F10).add 14 F14).add 15 F14
theorem G1 : EV.Good Try.prog S1 := ((((((((G0.add c5 (by kernel_rfl)).add c6 (by kernel_rfl)).add c7 (by kernel_rfl)).add c8 (by kernel_rfl)).add c9 (by kernel_rfl)).add c10 (by kernel_rfl)).add c11 (by kernel_rfl)).add c14 (by kernel_rfl)).add c15 (by kernel_rfl)

/-! Slot -/
theorem run12 (o s f : Int) (a b c : Bool) : runV Try.prog S1 12 [key o s, i f] (tell 12 [(7, a), (10, b), (14, c)]) 6 =
    some (i (bif a || b || c then -1 else W (W (W (W (64 * o) + 16) + W (6 * s)) + f)), logOf [(true, iEq (codeOf o s) 0, a), (!a, iLt f 0, b), (!a && !b, !iLt f 6, c)] []) := by
  cases a <;> cases b <;> cases c <;> kernel_rfl
theorem run13 (o s f : Int) (a b c : Bool) : runV Try.prog S1 13 [key o s, i f] (tell 13 [(7, a), (10, b), (14, c)]) 6 =
    some (i (bif a || b || c then -1 else W (W (W (W (64 * o) + 16) + W (6 * s)) + f)), logOf [(true, iEq (codeOf o s) 0, a), (!a, iLt f 0, b), (!a && !b, iLt 5 f, c)] []) := by
  cases a <;> cases b <;> cases c <;> kernel_rfl
def slotOf (o s f : Int) : Int := bif iEq (codeOf o s) 0 || iLt f 0 || !iLt f 6 then -1 else W (W (W (W (64 * o) + 16) + W (6 * s)) + f)
def F12 : List AV → Option AV
  | [.agg [.int .i64 o, .int .i64 s], .int .i64 f] => some (i (slotOf o s f))
  | _ => none
theorem c12 : ∀ args v, F12 args = some v → PureCall Try.prog 12 args v := by
  intro args v h
  unfold F12 at h
  split at h
  · simp only [Option.some.injEq] at h; subst h
    exact pure_of_runV G1 (run12 _ _ _ _ _ _) (by simp) rfl rfl
  · cases h
theorem c13 : ∀ args v, F12 args = some v → PureCall Try.prog 13 args v := by
  intro args v h
  unfold F12 at h
  split at h
  · rename_i o s f
    simp only [Option.some.injEq] at h; subst h
    exact pure_of_runV G1 (run13 o s f (iEq (codeOf o s) 0) (iLt f 0) (!iLt f 6)) (by simp [lt_swap f 5]) rfl rfl
  · cases h

def S2 : Sum := (S1.add 12 F12).add 13 F12
theorem G2 : EV.Good Try.prog S2 := (G1.add c12 (by kernel_rfl)).add c13 (by kernel_rfl)

/-! Guard -/
def gC (n : Int) (a b c d e : Bool) : Int := bif a then n else bif b || c then -1 else bif d then coreOf (W ((W (n - 3584)).tdiv 16)) 15 else bif e then objOf (W (n.tdiv 64)) 0 else slotOf (W (n.tdiv 64)) (W ((W (n.tmod 64 - 16)).tdiv 6)) 0
theorem run16 (n : Int) (a b c d e : Bool) : runV Try.prog S2 16 [i n] (tell 16 [(7, a), (11, b), (14, c), (18, d), (28, e)]) 7 =
    some (i (gC n a b c d e), logOf [(true, iEq n 4095, a), (!a, iLt n 0, b), (!a && !b, !iLt n 4080, c), (!a && !b && !c, !iLt n 3584, d), (!a && !b && !c && !d, iLt (n.tmod 64) 16, e)] []) := by
  cases a <;> cases b <;> cases c <;> cases d <;> cases e <;> kernel_rfl
def gR (n : Int) (a b c d e : Bool) : Int := bif a then n else bif b || c then -1 else bif d then W (W (n - (W (n - 3584)).tmod 16) + 15) else bif e then W (n - n.tmod 64) else W (n - (W (n.tmod 64 - 16)).tmod 6)
theorem run17 (n : Int) (a b c d e : Bool) : runV Try.prog S2 17 [i n] (tell 17 [(5, a), (8, b), (11, c), (14, d), (24, e)]) 7 =
    some (i (gR n a b c d e), logOf [(true, iEq n 4095, a), (!a, iLt n 0, b), (!a && !b, !iLt n 4080, c), (!a && !b && !c, !iLt n 3584, d), (!a && !b && !c && !d, iLt (n.tmod 64) 16, e)] []) := by
  cases a <;> cases b <;> cases c <;> cases d <;> cases e <;> kernel_rfl
def guardC (n : Int) : Int := gC n (iEq n 4095) (iLt n 0) (!iLt n 4080) (!iLt n 3584) (iLt (n.tmod 64) 16)
def guardR (n : Int) : Int := gR n (iEq n 4095) (iLt n 0) (!iLt n 4080) (!iLt n 3584) (iLt (n.tmod 64) 16)
def F16 : List AV → Option AV
  | [.int .i64 n] => some (i (guardC n))
  | _ => none
def F17 : List AV → Option AV
  | [.int .i64 n] => some (i (guardR n))
  | _ => none
theorem c16 : ∀ args v, F16 args = some v → PureCall Try.prog 16 args v := by
  intro args v h
  unfold F16 at h
  split at h
  · simp only [Option.some.injEq] at h; subst h
    exact pure_of_runV G2 (run16 _ _ _ _ _ _) (by simp) rfl rfl
  · cases h
theorem c17 : ∀ args v, F17 args = some v → PureCall Try.prog 17 args v := by
  intro args v h
  unfold F17 at h
  split at h
  · simp only [Option.some.injEq] at h; subst h
    exact pure_of_runV G2 (run17 _ _ _ _ _ _) (by simp) rfl rfl
  · cases h
def S3 : Sum := (S2.add 16 F16).add 17 F17
theorem G3 : EV.Good Try.prog S3 := (G2.add c16 (by kernel_rfl)).add c17 (by kernel_rfl)
end
end Go.Proofs.Ytggpbcgkjalepaa
