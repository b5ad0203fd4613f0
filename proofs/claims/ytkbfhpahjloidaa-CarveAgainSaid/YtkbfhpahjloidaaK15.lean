/- Own text of this claim: an abstract machine over the given program form, and what follows from it. No condition. -/
import Derived.Test.YtkbfhpahjloidaaK14
set_option linter.unusedVariables false
set_option linter.unusedSimpArgs false
namespace Go.Proofs.Ytkbfhpahjloidaa
open Go Go.EV
/-! the law: true -/
section
variable {s z w : Int} {n m : Nat} {a b : Nat → Int}
theorem run_read {modes : List (Nat × Mode)} {tl : List (Nat × Bool)} {u : List (Nat × Sure)} {args : List AV} {rows : List (Nat × (Nat → AV))} {r : List (Bool × Bool × Bool)}
    (h : runA modes tl u args rows = some (.bool true, logOf r [])) (hl : ∀ e ∈ r, e.2.1 = e.2.2) : ReadCall Try.prog 6 rows args (.bool true) :=
  read_of_run (GA (mdA modes)) h (fun e he _ => hl e he) rfl
theorem big_no (hn : n ≤ 60) : (big n false).2.1 = (big n false).2.2 := by
  show iLt 60 (Int.ofNat n) = false
  rw [iLt_eq, decide_eq_false_iff_not]; simp only [Int.ofNat_eq_natCast]; omega
theorem big_yes (hn : 60 < n) : (big n true).2.1 = (big n true).2.2 := by
  show iLt 60 (Int.ofNat n) = true
  rw [iLt_eq, decide_eq_true_eq]; simp only [Int.ofNat_eq_natCast]; omega
theorem f1 {c : Bool} (h : c = true) : (fx s z && true && c) = true := by rw [fx_true, h]; rfl
theorem eq_lo {j : Nat} (h : j < n) : iEq (pe' s z w (iA (rc n m a b)) j) (pe' s z w (iA (rA a)) j) = true := by
  have := pC_lo (s := s) (z := z) (w := w) (m := m) (a := a) (b := b) h
  exact (congrArg (fun x => iEq x (pe' s z w (iA (rA a)) j)) this).trans (iEq_self _)
theorem eq_hi {j : Nat} (h : j < m) : iEq (pe' s z w (iA (rc n m a b)) (n + j)) (pe' s z (wA s z w n a) (iA (rA b)) j) = true := by
  have := pC_hi (s := s) (z := z) (w := w) (n := n) (a := a) (b := b) h
  exact (congrArg (fun x => iEq x (pe' s z (wA s z w n a) (iA (rA b)) j)) this).trans (iEq_self _)
theorem all_nil : ∀ e ∈ ([] : List (Bool × Bool × Bool)), e.2.1 = e.2.2 := fun e h => by cases h
theorem all_cons {c b : Bool} {r : List (Bool × Bool × Bool)} (h : c = b) (hr : ∀ e ∈ r, e.2.1 = e.2.2) : ∀ e ∈ (true, c, b) :: r, e.2.1 = e.2.2 := by
  intro e he
  simp only [List.mem_cons] at he
  rcases he with rfl | he
  · exact h
  · exact hr e he
set_option maxRecDepth 100000 in
theorem againRR (h0 : 0 < n) (g0 : 0 < m) : ReadCall Try.prog 6 [(n, row a), (m, row b)] [ext s z, i w, .sl 0 0 n none 1, .sl 1 0 m none 1] (.bool true) := by
  by_cases hn : n ≤ 60
  · by_cases hm : m ≤ 60
    · rcases first_no (s := s) (z := z) (w := w) (iA (rA a)) n with h1 | ⟨j, h1, h2, h3⟩
      · rcases first_no (s := s) (z := z) (w := wA s z w n a) (iA (rA b)) m with h2 | ⟨j, h2, h3, h4⟩
        · exact run_read (okRR s z w n m a b) (all_cons (big_no hn) (all_cons (big_no hm) (all_cons (K1_true hn h1) (all_cons (f1 (A1_true hn h0)) (all_cons (f1 (A2_true hn hm)) (all_cons (K2_true hn hm h1 h2) (all_cons (K3_true hm h2) (all_cons vu
            (all_cons (A3_true hn h0) (all_cons (A4_true hn hm) (all_cons (K5_true hn hm) all_nil)))))))))))
        · exact run_read (nxRR s z w n m a b j) (all_cons (big_no hn) (all_cons (big_no hm) (all_cons (K1_true hn h1) (all_cons (f1 (A1_true hn h0)) (all_cons (f1 (A2_true hn hm)) (all_cons (K2n_hi hn hm h1 h2 h3 h4) (all_cons (K3n_true hm h2 h3 h4) (all_cons (iEq_no h4)
            (all_cons (eq_hi h2) (all_cons (iEq_self w) (all_cons (iEq_self _) all_nil)))))))))))
      · exact run_read (noRR s z w n m a b j) (all_cons (big_no hn) (all_cons (big_no hm) (all_cons (K1n_true hn h1 h2 h3) (all_cons (f1 (A1_true hn h0)) (all_cons (f1 (A2_true hn hm)) (all_cons (K2n_lo hn hm h1 h2 h3) (all_cons (iEq_no h3)
          (all_cons (eq_lo h1) (all_cons (iEq_self w) all_nil)))))))))
    · exact run_read (b2RR s z w n m a b) (all_cons (big_no hn) (all_cons (big_yes (by omega)) all_nil))
  · exact run_read (b1RR s z w n m a b) (all_cons (big_yes (by omega)) all_nil)
set_option maxRecDepth 100000 in
theorem againRE (k : Bool) (h0 : 0 < n) : ReadCall Try.prog 6 [(n, row a)] [ext s z, i w, .sl 0 0 n none 1, lvA k] (.bool true) := by
  have b : Nat → Int := fun _ => 0
  by_cases hn : n ≤ 60
  · have hm : 0 ≤ 60 := by omega
    have h2 : ∀ j, j < 0 → pe' s z (wA s z w n a) (iA (rA b)) j = 0 := fun j hj => by omega
    rcases first_no (s := s) (z := z) (w := w) (iA (rA a)) n with h1 | ⟨j, h1, h2, h3⟩
    · exact run_read (okRE s z w n a b k) (all_cons (big_no hn) (all_cons (K1_true hn h1) (all_cons (f1 (A1_true hn h0)) (all_cons (f1 (A2_true hn hm)) (all_cons (K2_true hn hm h1 h2) (all_cons vu
        (all_cons (A3_true hn h0) (all_cons (A4_true hn hm) (all_cons (K5_true hn hm) all_nil)))))))))
    · exact run_read (noRE s z w n a b k j) (all_cons (big_no hn) (all_cons (K1n_true hn h1 h2 h3) (all_cons (f1 (A1_true hn h0)) (all_cons (f1 (A2_true hn hm)) (all_cons (K2n_lo hn hm h1 h2 h3) (all_cons (iEq_no h3)
        (all_cons (eq_lo h1) (all_cons (iEq_self w) all_nil))))))))
  · exact run_read (b1RE s z w n a k) (all_cons (big_yes (by omega)) all_nil)
set_option maxRecDepth 100000 in
theorem againER (k : Bool) (g0 : 0 < m) : ReadCall Try.prog 6 [(m, row b)] [ext s z, i w, lvA k, .sl 0 0 m none 1] (.bool true) := by
  have a : Nat → Int := fun _ => 0
  by_cases hm : m ≤ 60
  · have hn : 0 ≤ 60 := by omega
    have h1 : ∀ j, j < 0 → pe' s z w (iA (rA a)) j = 0 := fun j hj => by omega
    rcases first_no (s := s) (z := z) (w := wA s z w 0 a) (iA (rA b)) m with h2 | ⟨j, h2, h3, h4⟩
    · exact run_read (okER s z w m a b k) (all_cons (big_no hm) (all_cons (f1 rfl) (all_cons (f1 (A1_true hm g0)) (all_cons (K2_true hn hm h1 h2) (all_cons (K3_true hm h2) (all_cons vu
        (all_cons (A3m_true hm g0) (all_cons (K5_true hn hm) all_nil))))))))
    · exact run_read (nxER s z w m a b k j) (all_cons (big_no hm) (all_cons (f1 rfl) (all_cons (f1 (A1_true hm g0)) (all_cons (K2n_hi hn hm h1 h2 h3 h4) (all_cons (K3n_true hm h2 h3 h4) (all_cons (iEq_no h4)
        (all_cons (eq_hi h2) (all_cons (iEq_self w) (all_cons (iEq_self _) all_nil)))))))))
  · exact run_read (b2ER s z w m b k) (all_cons (big_yes (by omega)) all_nil)
set_option maxRecDepth 100000 in
theorem againEE (k k' : Bool) : ReadCall Try.prog 6 [] [ext s z, i w, lvA k, lvA k'] (.bool true) := by
  have a : Nat → Int := fun _ => 0
  have h : (0 : Nat) ≤ 60 := by omega
  exact run_read (okEE s z w a a k k') (all_cons (f1 rfl) (all_cons (f1 rfl) (all_cons (K2_true (s := s) (z := z) (w := w) (n := 0) (m := 0) (a := a) (b := a) h h (fun j hj => by omega) (fun j hj => by omega)) (all_cons (vu (s := s) (z := z) (w := w) (n := 0) (m := 0) (a := a) (b := a)) (all_cons (K5_true (s := s) (z := z) (w := w) (n := 0) (m := 0) (a := a) (b := a) h h) all_nil)))))
end
end Go.Proofs.Ytkbfhpahjloidaa
