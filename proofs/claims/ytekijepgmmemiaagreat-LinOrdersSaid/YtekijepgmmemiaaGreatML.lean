/- Own text of this claim: an abstract machine over the given program form, and what follows from it. No condition. -/
import Derived.Test.YtekijepgmmemiaaGreatMD
import Derived.Test.YtekijepgmmemiaaGreatEvQ
set_option linter.unusedVariables false
namespace Go.Gar
open Go Go.EV
noncomputable section
def F14 : List AV → Option (T AV)
  | [] => some (.leaf (.bool true))
  | _ => none
def U3 : USum := addV (addV (addV (addV (addV (addV (addV (addV noU 11 F11) 13 F13) 16 F16) 17 F17) 15 F15) 18 F18) 19 F18) 14 F14
end
end Go.Gar

set_option linter.unusedVariables false
set_option linter.unusedSimpArgs false
set_option maxHeartbeats 1000000
namespace Go.Gar
open Go Go.EV Go.EV.Srt
noncomputable section
/-! LinOrders, but for its look at a state (fn 14) -/
theorem F14_of (h : FnCall Pr 14 [] (.bool true)) : FnSpec Pr 14 F14 := by
  intro a t h0
  unfold F14 at h0
  split at h0
  · simp only [Option.some.injEq] at h0; subst h0
    rintro v hs
    have hs : _ = v := hs
    subst hs
    exact h
  · cases h0
theorem G3 (h : FnCall Pr 14 [] (.bool true)) : GoodU Pr U3 := (((((((G0.addV c11).addV c13).addV c16).addV c17).addV c15).addV c18).addV c19).addV (F14_of h)
def y3 : Hy := hy [(3, [7, 11, 17, 24, 32])] [] [] []
section
variable (n m c : Nat) (S : Nat → Span) (E : Nat → Event) (l : Nat → Int) (fl fm fc : Bool)
def T3 : T Lv :=
  (.ck (IsE n (fun k => eSpan (S k)) eSpan dSpan ∧ IsE m (fun k => eEvent (E k)) eEvent dEvent)
  (.br (!small n m E)
   (.leaf (.fin (.bool (true))))
   (.br (decide ((c : Int) > 40))
    (.leaf (.fin (.bool (true))))
    (.ck (n ≤ 1000000 ∧ m ≤ 1000000 ∧ IsE n (fun k => eSpan (S k)) eSpan dSpan ∧ IsE m (fun k => eEvent (E k)) eEvent dEvent)
    (.br ((bif histOk n S m E then (0 : Int) else 180) != 0)
     (.leaf (.fin (.bool (true))))
     (.ck (n ≤ 40 ∧ IsE n (fun k => eSpan (S k)) eSpan dSpan ∧ okE m fun k => eEvent (E k))
     (.ck (n ≤ 40 ∧ IsE n (fun k => eSpan (S k)) eSpan dSpan ∧ okE m fun k => eEvent (E k))
     (.ck ((fil (sel S E m) n).length ≤ 1000000 ∧ IsE (fil (sel S E m) n).length (rI (Srt.stab (KK (stF S E m n)) (lx (fil (sel S E m) n)) (fil (sel S E m) n).length)) eI dI ∧ IsE (fil (selR S E m) n).length (rI (xR S E m n)) eI dI)
     (.br (eqN (fil (sel S E m) n).length (Srt.stab (KK (stF S E m n)) (lx (fil (sel S E m) n)) (fil (sel S E m) n).length) (fil (selR S E m) n).length (xR S E m n))
      (.ck (c ≤ 1000000 ∧ IsE n (fun k => eSpan (S k)) eSpan dSpan ∧ IsE m (fun k => eEvent (E k)) eEvent dEvent ∧ IsE c (fun k => [i (l k)]) eI dI)
      (.ck (c ≤ 1000000 ∧ IsE n (fun k => eSpan (S k)) eSpan dSpan ∧ IsE m (fun k => eEvent (E k)) eEvent dEvent ∧ IsE c (fun k => [i (l k)]) eI dI)
      (.br (respB n S c l == respB n S c l)
       (.leaf (.fin (.bool (true))))
       (.leaf (.fin (.bool (false)))))))
      (.leaf (.fin (.bool (false)))))))))))))
theorem t3 : symF Pr U3 y3 1000 (stt Pr 3 [.agg [lsS n S fl, lsE m E fm], lsI c l fc]) = T3 n m c S E l := by kernel_rfl
end
theorem small_iff {n m : Nat} {E : Nat → Event} (h : small n m E = true) : n ≤ 40 ∧ m ≤ 120 ∧ ∀ k, k < m → (E k).replies.n ≤ 10 := by
  unfold small at h
  simp only [Bool.and_eq_true, decide_eq_true_eq] at h
  exact ⟨h.1, h.2.1, fun k hk => of_decide_eq_true (allN_iff.mp h.2.2 k hk)⟩
theorem c3 (h : FnCall Pr 14 [] (.bool true)) {n m c : Nat} {S : Nat → Span} {E : Nat → Event} {l : Nat → Int} {fl fm fc : Bool} : FnCall Pr 3 [.agg [lsS n S fl, lsE m E fm], lsI c l fc] (.bool true) := by
  refine fn_of_fin (G3 h) (by kernel_rfl) (t3 n m c S E l fl fm fc) ?_
  refine ⟨⟨isE_of d_eSpan, isE_of d_eEvent⟩, fun _ => rfl, fun h1 => ?_⟩
  obtain ⟨hn, hm, hr⟩ := small_iff (show small n m E = true by simpa using h1)
  refine ⟨fun _ => rfl, fun h2 => ⟨⟨by omega, by omega, isE_of d_eSpan, isE_of d_eEvent⟩, fun _ => rfl, fun h3 => ?_⟩⟩
  have hc : c ≤ 40 := by simp at h2; omega
  have hh : histOk n S m E = true := by
    cases hk : histOk n S m E with
    | true => rfl
    | false => rw [hk] at h3; simp at h3
  have hE : okE m fun k => eEvent (E k) := okE_of ⟨by omega, fun k hk => by have := hr k hk; omega⟩
  refine ⟨⟨hn, isE_of d_eSpan, hE⟩, ⟨hn, isE_of d_eSpan, hE⟩, ⟨Nat.le_trans fil_len (by omega), isI _ _, isI _ _⟩, fun _ => ?_, fun h4 => ?_⟩
  · exact ⟨⟨by omega, isE_of d_eSpan, isE_of d_eEvent, isI _ _⟩, ⟨by omega, isE_of d_eSpan, isE_of d_eEvent, isI _ _⟩, fun _ => rfl, fun h5 => by simp at h5⟩
  · rw [ord_eq hh hn] at h4; cases h4
end
end Go.Gar

set_option linter.unusedVariables false
namespace Go.Gar
open Go Go.EV
noncomputable section
def y0 : Hy := hy [] [] [] []
def yD : Hy := hy [] [] [] [(180, [89])]
/-- the least state -/
def stW : AV := .agg [.ls (3) (chunkE 8 [i (2), i (0), i (3), i (0), i (0), i (0), i (-1), i (0), i (1), i (0), i (1), i (0), i (64), i (0), i (-1), i (0), i (4), i (0), i (1), i (0), i (0), i (0), i (-1), i (0)]) 8 (false), .ls (1) (chunkE 1 [.ls (0) (chunkE 1 []) 1 (false)]) 1 (false), .ls (3) (chunkE 1 [.ls (8) (chunkE 5 [i (1), i (15), i (0), i (1), i (0), i (4), i (15), i (0), i (2), i (0), i (0), i (0), i (0), i (0), i (0), i (0), i (0), i (0), i (0), i (0), i (0), i (0), i (0), i (0), i (0), i (0), i (0), i (0), i (0), i (0), i (0), i (0), i (0), i (0), i (0), i (0), i (0), i (0), i (0), i (0)]) 5 (false), .nilsl, .nilsl]) 1 (false), .ls (2) (chunkE 4 [i (0), i (0), i (0), .bool (false), i (0), i (1), i (0), .bool (false)]) 4 (false), .ls (3) (chunkE 3 [i (0), i (0), .nilsl, i (0), i (0), .nilsl, i (0), i (0), .nilsl]) 3 (false), .ls (1) (chunkE 1 [.nilsl]) 1 (false), .ls (1) (chunkE 1 [i (0)]) 1 (false), .ls (1) (chunkE 4 [.bool (false), i (0), i (0), .bool (false)]) 4 (false)]
def lookV : AV := .agg [i 12, u 193, u 0, i 0, i 0, i 0, i 0, i 0]
def doneV : AV := .ls 1 (chunkE 5 [i 0, i 0, i 0, i 0, .bool false]) 5 false
theorem cNew : FnCall Pr 40 [i 1, i 3, i 64, i 1] (.tup [stW, i 0]) := fn_of_chk G0 (y := y0) (n := 4000) (by kernel_rfl) (by kernel_rfl)
end
end Go.Gar

set_option linter.unusedVariables false
namespace Go.Gar
open Go Go.EV
noncomputable section
theorem cLook : FnCall Pr 118 [stW, i 0, lookV] (.tup [stW, doneV]) := fn_of_chk G0 (y := yD) (n := 20000) (by kernel_rfl) (by kernel_rfl)
end
end Go.Gar

set_option linter.unusedVariables false
namespace Go.Gar
open Go Go.EV
noncomputable section
def U14 : USum := addV (addV noU 40 (oneF [i 1, i 3, i 64, i 1] (.tup [stW, i 0]))) 118 (oneF [stW, i 0, lookV] (.tup [stW, doneV]))
end
end Go.Gar

set_option linter.unusedVariables false
namespace Go.Gar
open Go Go.EV
noncomputable section
theorem G14 : GoodU Pr U14 := (G0.addV (.one cNew)).addV (.one cLook)
theorem c14 : FnCall Pr 14 [] (.bool true) := fn_of_chk G14 (y := y0) (n := 6000) (by kernel_rfl) (by kernel_rfl)
end
end Go.Gar
