/- Own text of this claim: an abstract machine over the given program form, and what follows from it. No condition. -/
import Derived.Test.YtkbfhpahjloidaaC1
set_option linter.unusedVariables false
namespace Go.Proofs.Ytkbfhpahjloidaa
open Go Go.EV

/-! Power -/
def powers : List Int := [1, 2, 4, 8, 16, 32, 64, 128, 256, 512, 1024, 2048, 4096, 8192, 16384, 32768, 65536, 131072, 262144, 524288, 1048576]
def pow (n : Int) : Bool := powers.any fun k => k == n
theorem run29f (n : Int) : runV Try.prog noSum 29 [i n] (tell 29 [(10, false)]) 11 = some (.bool false, logOf (powers.map fun k => (true, k == n, false)) []) := by
  kernel_rfl
theorem run29t : (powers.all fun k => match runV Try.prog noSum 29 [i k] noHint 11 with | some (.bool true, []) => true | _ => false) = true := by kernel_rfl
def F29 : List AV → Option AV
  | [.int .i64 n] => some (.bool (pow n))
  | _ => none
theorem c29 : ∀ args v, F29 args = some v → PureCall Try.prog 29 args v := by
  intro args v h
  unfold F29 at h
  split at h
  · rename_i n
    simp only [Option.some.injEq] at h; subst h
    by_cases hp : pow n = true
    · rw [hp]
      unfold pow at hp
      rw [List.any_eq_true] at hp
      obtain ⟨k, hk, he⟩ := hp
      have : k = n := by simpa using he
      subst this
      have := List.all_eq_true.mp run29t k hk
      split at this
      · rename_i e
        exact pure_of_runV G0 (r := []) (e.trans rfl) (by simp) rfl rfl
      · cases this
    · have hp : pow n = false := by simpa using hp
      rw [hp]
      refine pure_of_runV G0 (run29f n) ?_ rfl rfl
      unfold pow at hp
      rw [List.any_eq_false] at hp
      intro e he
      simp only [List.mem_map] at he
      obtain ⟨k, hk, rfl⟩ := he
      intro _
      simpa using hp k hk
  · cases h

/-! num -/
theorem run11 (n : Int) : runV Try.prog noSum 11 [i n] noHint 5 = some (i n, logOf [] []) := by kernel_rfl
def F11 : List AV → Option AV
  | [.int .i64 n] => some (i n)
  | _ => none
theorem c11 : ∀ args v, F11 args = some v → PureCall Try.prog 11 args v := by
  intro args v h
  unfold F11 at h
  split at h
  · simp only [Option.some.injEq] at h; subst h
    exact pure_of_runV G0 (run11 _) (by simp) rfl rfl
  · cases h

/-! Is -/
theorem run13 (s z : Int) (a b c : Bool) : runV Try.prog noSum 13 [ext s z] (tell 13 [(5, a), (9, b), (14, c)]) 6 =
    some (.bool (a && b && c && decide (z ≤ W (sp - s))), logOf [(true, decide (s ≥ 0), a), (a, decide (s ≤ sp), b), (a && b, decide (z ≥ 1), c)] []) := by
  cases a <;> cases b <;> cases c <;> kernel_rfl
def isE (s z : Int) : Bool := decide (s ≥ 0) && decide (s ≤ sp) && decide (z ≥ 1) && decide (z ≤ W (sp - s))
def F13 : List AV → Option AV
  | [.agg [.int .i64 s, .int .i64 z]] => some (.bool (isE s z))
  | _ => none
theorem c13 : ∀ args v, F13 args = some v → PureCall Try.prog 13 args v := by
  intro args v h
  unfold F13 at h
  split at h
  · simp only [Option.some.injEq] at h; subst h
    exact pure_of_runV G0 (run13 _ _ _ _ _) (by simp) rfl rfl
  · cases h

theorem isE_bad (s z : Int) : isE s z = !bad s z := by
  unfold isE bad
  by_cases h1 : s < 0 <;> by_cases h2 : z < 1 <;> by_cases h3 : s > sp <;> by_cases h4 : z > W (sp - s) <;> simp [h1, h2, h3, h4] <;> omega

/-- what is known of the functions below -/
noncomputable def S1 : Sum := (((noSum.add 28 F28).add 12 F12).add 29 F29).add 13 F13
theorem G1 : EV.Good Try.prog S1 := (((G0.add c28 (by kernel_rfl)).add c12 (by kernel_rfl)).add c29 (by kernel_rfl)).add c13 (by kernel_rfl)

/-! both -/
theorem two_eq (b : Bool) : ((bif b then (2 : Int) else 0) == 0) = !b := by cases b <;> rfl
theorem run30 (s z s' z' : Int) (a b : Bool) : runV Try.prog S1 30 [ext s z, ext s' z'] (tell 30 [(7, a), (11, b)]) 6 =
    some (.bool (a && b), logOf [(true, ((bif bad s z then (2 : Int) else 0) == 0), a), (a, ((bif bad s' z' then (2 : Int) else 0) == 0), b)] []) := by
  cases a <;> cases b <;> kernel_rfl
def F30 : List AV → Option AV
  | [.agg [.int .i64 s, .int .i64 z], .agg [.int .i64 s', .int .i64 z']] => some (.bool (isE s z && isE s' z'))
  | _ => none
theorem c30 : ∀ args v, F30 args = some v → PureCall Try.prog 30 args v := by
  intro args v h
  unfold F30 at h
  split at h
  · simp only [Option.some.injEq] at h; subst h
    exact pure_of_runV G1 (run30 _ _ _ _ _ _) (by simp [two_eq, isE_bad]) rfl rfl
  · cases h
noncomputable def S2 : Sum := S1.add 30 F30
theorem G2 : EV.Good Try.prog S2 := G1.add c30 (by kernel_rfl)

/-! Inside, Meet -/
def inside (s z s' z' : Int) : Bool := isE s z && isE s' z' && decide (s ≥ s') && decide (W (s + z) ≤ W (s' + z'))
def meetC (s z s' z' : Int) : Bool := isE s z && isE s' z' && decide (mm2 true s s' < mm2 false (W (s + z)) (W (s' + z')))
def meetR (s z s' z' : Int) : Bool := isE s z && isE s' z' && decide (s < W (s' + z')) && decide (s' < W (s + z))
theorem run16 (s z s' z' : Int) (a b : Bool) : runV Try.prog S2 16 [ext s z, ext s' z'] (tell 16 [(8, a), (13, b)]) 7 =
    some (.bool (a && b && decide (W (s + z) ≤ W (s' + z'))), logOf [(true, isE s z && isE s' z', a), (a, decide (s ≥ s'), b)] []) := by
  cases a <;> cases b <;> kernel_rfl
theorem run17 (s z s' z' : Int) (a b c : Bool) : runV Try.prog S2 17 [ext s z, ext s' z'] (tell 17 [(7, a), (9, b), (16, c)]) 7 =
    some (.bool (a && b && c && decide (W (s + z) ≤ W (s' + z'))), logOf [(true, isE s z, a), (a, isE s' z', b), (a && b, decide (s ≥ s'), c)] []) := by
  cases a <;> cases b <;> cases c <;> kernel_rfl
theorem run18 (s z s' z' : Int) (a : Bool) : runV Try.prog S2 18 [ext s z, ext s' z'] (tell 18 [(8, a)]) 7 =
    some (.bool (a && decide (mm2 true s s' < mm2 false (W (s + z)) (W (s' + z')))), logOf [(true, isE s z && isE s' z', a)] []) := by
  cases a <;> kernel_rfl
theorem run19 (s z s' z' : Int) (a b c : Bool) : runV Try.prog S2 19 [ext s z, ext s' z'] (tell 19 [(7, a), (9, b), (19, c)]) 7 =
    some (.bool (a && b && c && decide (s' < W (s + z))), logOf [(true, isE s z, a), (a, isE s' z', b), (a && b, decide (s < W (s' + z')), c)] []) := by
  cases a <;> cases b <;> cases c <;> kernel_rfl
def F16 : List AV → Option AV
  | [.agg [.int .i64 s, .int .i64 z], .agg [.int .i64 s', .int .i64 z']] => some (.bool (inside s z s' z'))
  | _ => none
def F18 : List AV → Option AV
  | [.agg [.int .i64 s, .int .i64 z], .agg [.int .i64 s', .int .i64 z']] => some (.bool (meetC s z s' z'))
  | _ => none
def F19 : List AV → Option AV
  | [.agg [.int .i64 s, .int .i64 z], .agg [.int .i64 s', .int .i64 z']] => some (.bool (meetR s z s' z'))
  | _ => none
theorem c16 : ∀ args v, F16 args = some v → PureCall Try.prog 16 args v := by
  intro args v h
  unfold F16 at h
  split at h
  · simp only [Option.some.injEq] at h; subst h
    exact pure_of_runV G2 (run16 _ _ _ _ _ _) (by simp) rfl rfl
  · cases h
theorem c17 : ∀ args v, F16 args = some v → PureCall Try.prog 17 args v := by
  intro args v h
  unfold F16 at h
  split at h
  · simp only [Option.some.injEq] at h; subst h
    exact pure_of_runV G2 (run17 _ _ _ _ _ _ _) (by simp) rfl rfl
  · cases h
theorem c18 : ∀ args v, F18 args = some v → PureCall Try.prog 18 args v := by
  intro args v h
  unfold F18 at h
  split at h
  · simp only [Option.some.injEq] at h; subst h
    exact pure_of_runV G2 (run18 _ _ _ _ _) (by simp) rfl rfl
  · cases h
theorem c19 : ∀ args v, F19 args = some v → PureCall Try.prog 19 args v := by
  intro args v h
  unfold F19 at h
  split at h
  · simp only [Option.some.injEq] at h; subst h
    exact pure_of_runV G2 (run19 _ _ _ _ _ _ _) (by simp) rfl rfl
  · cases h
end Go.Proofs.Ytkbfhpahjloidaa
