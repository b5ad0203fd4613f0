/- Own text of this claim: an abstract machine over the given program form, and what follows from it. No condition. -/
import Derived.Test.YtkbfhpahjloidaaG8
set_option linter.unusedVariables false
set_option linter.unusedSimpArgs false
namespace Go.Proofs.Ytkbfhpahjloidaa
open Go Go.EV
noncomputable section
theorem t20 : symF Try.prog noU (hy [] [] [] []) 5000 (stt Try.prog 20 []) = .leaf (.fin (.bool true)) := by kernel_rfl
def F20 : List AV → Option (T AV)
  | [] => some (.leaf (.bool true))
  | _ => none
theorem c20 : FnSpec Try.prog 20 F20 := by
  intro a t h
  unfold F20 at h
  split at h
  · simp only [Option.some.injEq] at h; subst h
    exact fnSpec_br (t := .leaf _) (fn_of_fin G0 (by kernel_rfl) t20 rfl)
  · cases h
/-! the same contracts, without cases -/
def pA (s z w n : Int) : Int := bif okc s z w n then (bif decide (cvW s w n ≤ z) then cvS s w n else 0) else 0
def pB (s z w n : Int) : Int := bif okc s z w n then (bif decide (cvW s w n ≤ z) then n else 0) else 0
def pC (s z w n : Int) : Int := bif okc s z w n then (bif decide (cvW s w n ≤ z) then cvW s w n else w) else w
def L21 : List AV → Option (T AV)
  | [.agg [.int .i64 s, .int .i64 z], .int .i64 w, .int .i64 n] => some (.leaf (.tup [ext (pA s z w n) (pB s z w n), i (pC s z w n), i (code s z w n)]))
  | _ => none
theorem l21 {g : FuncId} (h : FnSpec Try.prog g F21) : FnSpec Try.prog g L21 := by
  intro a t h0
  unfold L21 at h0
  split at h0
  · rename_i s z w n
    simp only [Option.some.injEq] at h0; subst h0
    intro v hs
    have hs : AV.tup _ = v := hs
    subst hs
    have h1 := h [ext s z, i w, i n] _ rfl
    unfold pA pB pC code
    cases h2 : okc s z w n with
    | false => exact h1 _ (.inr ⟨h2, rfl⟩)
    | true =>
      cases h3 : decide (cvW s w n ≤ z) with
      | false => exact h1 _ (.inl ⟨h2, .inr ⟨h3, rfl⟩⟩)
      | true => exact h1 _ (.inl ⟨h2, .inl ⟨h3, rfl⟩⟩)
  · cases h0
def mN (s z w : Int) (n : Nat) (l : Nat → Int) : Nat := bif er s z w l n == 0 then n else 0
def mW (s z w : Int) (n : Nat) (l : Nat → Int) : Int := bif er s z w l n == 0 then wt s w l n else w
def L23 : List AV → Option (T AV)
  | [.agg [.int .i64 s, .int .i64 z], .int .i64 w, .ls n f 1 full] => some (.ck (isI n f) (.leaf (.tup [.ls (mN s z w n (fun j => gi (f j))) (fun k => [i (cvS s (wt s w (fun j => gi (f j)) k) (gi (f k))), i (gi (f k))]) 2 false, i (mW s z w n (fun j => gi (f j))), i (er s z w (fun j => gi (f j)) n)])))
  | _ => none
theorem l23 {g : FuncId} (h : FnSpec Try.prog g F23) : FnSpec Try.prog g L23 := by
  intro a t h0
  unfold L23 at h0
  split at h0
  · rename_i s z w n f full
    simp only [Option.some.injEq] at h0; subst h0
    rintro v ⟨hf, hs⟩
    have hs : AV.tup _ = v := hs
    subst hs
    have h1 := h [ext s z, i w, .ls n f 1 full] _ rfl
    unfold mN mW
    cases h2 : (er s z w (fun j => gi (f j)) n == 0) with
    | false => exact (h1 _ ⟨hf, .inr ⟨h2, rfl⟩⟩).like (Like.tup (likes_cons Like.nilsl (likes_cons Like.rfl (likes_cons Like.rfl likes_nil))))
    | true =>
      have h3 : er s z w (fun j => gi (f j)) n = 0 := by simpa using h2
      have := h1 _ ⟨hf, .inl ⟨h2, rfl⟩⟩
      rw [h3]
      exact this
  · cases h0
def U3 : USum := addV (addV (addV (addV (addV (addV (addV (addV U1 21 L21) 22 L21) 23 L23) 24 L23) 25 F25) 26 F26) 27 F26) 20 F20
theorem G3 : GoodU Try.prog U3 := (((((((G1.addV (l21 c21)).addV (l21 c22)).addV (l23 c23)).addV (l23 c24)).addV c25).addV c26).addV c27).addV c20
end
end Go.Proofs.Ytkbfhpahjloidaa
