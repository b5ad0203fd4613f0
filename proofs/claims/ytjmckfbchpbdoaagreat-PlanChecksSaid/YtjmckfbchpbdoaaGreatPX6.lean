/- Own text of this claim: an abstract machine over the given program form, and what follows from it. No condition. -/
import Derived.Test.YtjmckfbchpbdoaaGreatPX5
set_option linter.unusedVariables false
set_option linter.unusedSimpArgs false
namespace Go.Proofs.YtjmckfbchpbdoaaGreat
open Go Go.EV
noncomputable section
theorem fn_orT {P : Program} {U : USum} (G : GoodU P U) {y : Hy} {n : Nat} {f : FuncId} {args : List AV} {l : List Bool} {a b : AV} (hs : isSt P f args = true) (ht : symF P U y n (stt P f args) = orT l (.leaf (.fin a)) (.leaf (.fin b))) : FnCall P f args (bif l.any id then b else a) :=
  fn_of_fin G hs ht (orT_wp (fun h => by rw [h]; rfl) (fun h => by rw [h]; rfl))
theorem fn_chainT {P : Program} {U : USum} (G : GoodU P U) {y : Hy} {n : Nat} {f : FuncId} {args : List AV} {l : List Bool} {a b : AV} (hs : isSt P f args = true) (ht : symF P U y n (stt P f args) = chainT l (.leaf (.fin a)) (.leaf (.fin b))) : FnCall P f args (bif l.all id then a else b) :=
  fn_of_fin G hs ht (chainT_wp (fun h => by rw [h]; rfl) (fun h => by rw [h]; rfl))
def L23 (o f : Int) : List Bool := [decide (o < 0), decide (o ≥ 56), decide (f < 0), decide (f > 15)]
def L25 (o s : Int) : List Bool := [decide (o < 0), decide (o ≥ 56), decide (s < 0), decide (s ≥ 8)]
def L28 (o s f : Int) : List Bool := [W (W (W (8 * o) + s) + 1) == 0, decide (f < 0), decide (f > 5)]
def L31 (o f : Int) : List Bool := [decide (o < 0), decide (o ≥ 31), decide (f < 0), decide (f > 15)]
def F23 : List AV → Option (T AV)
  | [.int .i64 o, .int .i64 f] => some (.leaf (bif (L23 o f).any id then i (-1) else i (W (W (64 * o) + f))))
  | _ => none
def F25 : List AV → Option (T AV)
  | [.agg [.int .i64 o, .int .i64 s]] => some (.leaf (bif (L25 o s).any id then i 0 else i (W (W (W (8 * o) + s) + 1))))
  | _ => none
def F28 : List AV → Option (T AV)
  | [.agg [.int .i64 o, .int .i64 s], .int .i64 f] => some (.leaf (bif (L25 o s).any id then i (-1) else bif (L28 o s f).any id then i (-1) else i (W (W (W (W (64 * o) + 16) + W (6 * s)) + f))))
  | _ => none
def F31 : List AV → Option (T AV)
  | [.int .i64 o, .int .i64 f] => some (.leaf (bif (L31 o f).any id then i (-1) else i (W (W (3584 + W (16 * o)) + f))))
  | _ => none
def F22 : List AV → Option (T AV)
  | [.agg [.int .i64 a, .int .i64 b, .int .i64 c, .int .i64 d, .int .i64 e, .int .i64 f, .int .i64 g, .int .i64 h]] => some (.leaf (bif [decide (a ≥ 1)].all id then .bool (decide (a ≤ 5)) else .bool false))
  | _ => none
theorem c23 : FnSpec Tryz.prog 23 F23 := by
  intro w t h
  unfold F23 at h
  split at h
  · rename_i o f
    simp only [Option.some.injEq] at h; subst h
    exact fnSpec_br (t := .leaf _) (fn_orT G0 (y := hy [(23, [6,9,13,17])] [] [] []) (n := 200) (by kernel_rfl) (by kernel_rfl))
  · cases h
theorem c25 : FnSpec Tryz.prog 25 F25 := by
  intro w t h
  unfold F25 at h
  split at h
  · rename_i o f
    simp only [Option.some.injEq] at h; subst h
    exact fnSpec_br (t := .leaf _) (fn_orT G0 (y := hy [(25, [5,9,14,19])] [] [] []) (n := 200) (by kernel_rfl) (by kernel_rfl))
  · cases h
theorem t28 (o s f : Int) : symF Tryz.prog noU (hy [(25, [5,9,14,19]), (28, [7,10,14])] [] [] []) 400 (stt Tryz.prog 28 [.agg [i o, i s], i f]) =
  orT (L25 o s) (orT (L28 o s f) (.leaf (.fin (i (W (W (W (W (64 * o) + 16) + W (6 * s)) + f))))) (.leaf (.fin (i (-1))))) (.br ((0 : Int) == 0) (.leaf (.fin (i (-1)))) (orT [decide (f < 0), decide (f > 5)] (.leaf (.fin (i (W (W (W (W (64 * o) + 16) + W (6 * s)) + f))))) (.leaf (.fin (i (-1)))))) := by kernel_rfl
theorem c28 : FnSpec Tryz.prog 28 F28 := by
  intro w t h
  unfold F28 at h
  split at h
  · rename_i o s f
    simp only [Option.some.injEq] at h; subst h
    exact fnSpec_br (t := .leaf _) (fn_of_fin G0 (by kernel_rfl) (t28 o s f) (orT_wp (fun h => by rw [h]; exact orT_wp (fun h => by rw [h]; rfl) (fun h => by rw [h]; rfl)) (fun h => by rw [h]; exact ⟨fun _ => rfl, fun h => by simp at h⟩)))
  · cases h
theorem c31 : FnSpec Tryz.prog 31 F31 := by
  intro w t h
  unfold F31 at h
  split at h
  · rename_i o f
    simp only [Option.some.injEq] at h; subst h
    exact fnSpec_br (t := .leaf _) (fn_orT G0 (y := hy [(31, [6,9,13,17])] [] [] []) (n := 200) (by kernel_rfl) (by kernel_rfl))
  · cases h
theorem c22 : FnSpec Tryz.prog 22 F22 := by
  intro w t h
  unfold F22 at h
  split at h
  · simp only [Option.some.injEq] at h; subst h
    exact fnSpec_br (t := .leaf _) (fn_chainT G0 (y := hy [(22, [5])] [] [] []) (n := 200) (by kernel_rfl) (by kernel_rfl))
  · cases h
def U5a : USum := addV (addV (addV (addV (addV (addV U4 35 F35) 23 F23) 25 F25) 28 F28) 31 F31) 22 F22
theorem G5a : GoodU Tryz.prog U5a := (((((G4.addV c35).addV c23).addV c25).addV c28).addV c31).addV c22
def yN : Hy := hy [] [] [] []
def U5 : USum := addV (addV (addV (addV U5a 29 (itsF Tryz.prog noU yN 100 29)) 30 (itsF Tryz.prog noU yN 2000 30)) 27 (itsF Tryz.prog U5a yN 4000 27)) 26 (itsF Tryz.prog noU yN 2000 26)
theorem G5 : GoodU Tryz.prog U5 := (((G5a.addV (.eval G0 _ _ _)).addV (.eval G0 _ _ _)).addV (.eval G5a _ _ _)).addV (.eval G0 _ _ _)
end
end Go.Proofs.YtjmckfbchpbdoaaGreat
