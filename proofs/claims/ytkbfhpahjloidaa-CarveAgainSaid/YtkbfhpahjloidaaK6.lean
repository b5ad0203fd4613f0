/- Own text of this claim: an abstract machine over the given program form, and what follows from it. No condition. -/
import Derived.Test.YtkbfhpahjloidaaK5
set_option linter.unusedVariables false
set_option linter.unusedSimpArgs false
namespace Go.Proofs.Ytkbfhpahjloidaa
open Go Go.EV
section
variable {s z w : Int} {a : Nat → Int} {n : Nat}

theorem blt_of {x y : Nat} (h : x < y) : Nat.blt x y = true := by simp [Nat.blt]; omega
theorem ble_of {x y : Nat} (h : x ≤ y) : Nat.ble x y = true := by simpa using h
theorem lt_nat (x y : Nat) : iLt (Int.ofNat x) (Int.ofNat y) = decide (x < y) := by rw [iLt_eq]; simp
theorem next_of {x : Nat} (h : x < 1000) : iEq (W (Int.ofNat x + 1)) (Int.ofNat (x + 1)) = true := by
  rw [iEq_eq, beq_iff_eq, W_in _ (by simp only [Int.ofNat_eq_natCast]; omega)]; rfl

/-- the row of pieces, as it is written and as numbers -/
theorem gRow_eq : ∀ (m q : Nat), q < m * 2 → gRow s z w a m q = some (.int .i64 (cO s z w a q))
  | 0, q, h => by omega
  | m + 1, q, h => by
    show Tr.put1 _ _ _ q = _
    unfold Tr.put1
    by_cases h1 : q = 0 + m * 2 + 1
    · rw [if_pos h1, h1, cO_Z]
    · rw [if_neg h1]
      by_cases h2 : q = 0 + m * 2
      · rw [if_pos h2, h2, cO_S]
      · rw [if_neg h2]
        exact gRow_eq m q (by omega)

theorem hd_M {j : Nat} {b : Bool} {blk : ABlk} : isDreg (MO s z w a n blk j b).top.todo = false := by
  show isDreg tM = false
  kernel_rfl

/-- the law's loop -/
theorem loop_ends (h : AllOk s z w a n) (hn : n ≤ 60) : ∀ (d j : Nat), j + d = n → EV.Ends Try.prog S3 (LO s z w a n j (iLt (Int.ofNat j) (Int.ofNat n))) (.bool true)
  | 0, j, e => by
    obtain rfl : j = n := by omega
    rw [lt_nat, decide_eq_false (by omega)]
    exact EV.Ends.last (D1 s z w a j j) (by simp)
  | d + 1, j, e => by
    have hj : j < n := by omega
    rw [lt_nat, decide_eq_true hj]
    refine EV.Ends.seg G3 (C1 s z w a n j (iLt (Int.ofNat (j + 1)) (Int.ofNat n))) ?_ (loop_ends h hn d (j + 1) (by omega))
    intro e he _
    simp only [List.mem_cons, List.not_mem_nil, or_false, inN, inA, inS] at he
    have e1 := blt_of hj
    have e2 : Nat.blt (0 + j * 1) n = true := blt_of (by omega)
    have e3 : Nat.blt (0 + j * 2 + 0) (n * 2) = true := blt_of (by omega)
    have e4 : Nat.blt (0 + j * 2 + 1) (n * 2) = true := blt_of (by omega)
    have e5 : Nat.ble (0 + j * 2 + 2) (n * 2) = true := ble_of (by omega)
    rcases he with rfl | rfl | rfl | rfl | rfl | rfl | rfl | rfl | rfl | rfl | rfl | rfl | rfl | rfl | rfl | rfl | rfl | rfl | rfl | rfl | rfl | rfl | rfl | rfl
    all_goals first
      | exact e1
      | exact e2
      | exact e3
      | exact e4
      | exact e5
      | exact h.inside hj
      | exact h.size hj
      | exact h.nz hj
      | exact h.mult hj
      | exact h.behind hj
      | exact h.ahead hj
      | exact next_of (by omega)
      | rfl

/-- Apart's loops -/
theorem inner_ends (h : AllOk s z w a n) (hn : n ≤ 60) {j : Nat} (hj : j < n) (ho : EV.Ends Try.prog S3 (HO2 s z w a n (j + 1) (iLt (Int.ofNat (j + 1)) (Int.ofNat n))) (.bool true)) :
    ∀ (d k : Nat), k + d = j → EV.Ends Try.prog S3 (HI2 s z w a n j k (iLt (Int.ofNat k) (Int.ofNat j))) (.bool true)
  | 0, k, e => by
    obtain rfl : k = j := by omega
    rw [lt_nat, decide_eq_false (by omega)]
    refine EV.Ends.seg G3 (B4 s z w a n k k (iLt (Int.ofNat (k + 1)) (Int.ofNat n))) ?_ ho
    intro e he _
    simp only [List.mem_cons, List.mem_append, List.not_mem_nil, or_false, inRow] at he
    rcases he with (rfl | rfl) | rfl | rfl | rfl
    · exact blt_of hj
    · exact ble_of (by omega)
    · exact h.bad hj
    · exact next_of (by omega)
    · rfl
  | d + 1, k, e => by
    have hk : k < j := by omega
    rw [lt_nat, decide_eq_true hk]
    refine EV.Ends.seg G3 (B2 s z w a n j k (iLt (Int.ofNat (k + 1)) (Int.ofNat j))) ?_ (inner_ends h hn hj ho d (k + 1) (by omega))
    intro e he _
    simp only [List.mem_cons, List.mem_append, List.not_mem_nil, or_false, inRow] at he
    rcases he with ((rfl | rfl) | rfl | rfl) | rfl | rfl | rfl
    · exact blt_of hj
    · exact ble_of (by omega)
    · exact blt_of (by omega)
    · exact ble_of (by omega)
    · exact h.meet hk hj
    · exact next_of (by omega)
    · rfl

theorem outer_ends (h : AllOk s z w a n) (hn : n ≤ 60) : ∀ (d j : Nat), j + d = n → EV.Ends Try.prog S3 (HO2 s z w a n j (iLt (Int.ofNat j) (Int.ofNat n))) (.bool true)
  | 0, j, e => by
    obtain rfl : j = n := by omega
    rw [lt_nat, decide_eq_false (by omega)]
    refine EV.Ends.seg G3 (B6 s z w a j j (iLt 0 (Int.ofNat j)) (iLt (Int.ofNat 0) (Int.ofNat j))) ?_ (loop_ends h hn j 0 (by omega))
    intro e he hr
    simp only [List.mem_cons, List.not_mem_nil, or_false] at he
    have hp : iLt 0 (Int.ofNat j) = true → 0 < j := by
      intro hh; rw [iLt_eq, decide_eq_true_eq] at hh; simp only [Int.ofNat_eq_natCast] at hh; omega
    rcases he with rfl | rfl | rfl | rfl
    · rfl
    · exact (h.more (hp hr)).1
    · exact (h.more (hp hr)).2
    · rfl
  | d + 1, j, e => by
    have hj : j < n := by omega
    rw [lt_nat, decide_eq_true hj]
    refine EV.Ends.seg G3 (B1 s z w a n j (iLt (Int.ofNat 0) (Int.ofNat j))) ?_ (inner_ends h hn hj (outer_ends h hn d (j + 1) (by omega)) j 0 (by omega))
    intro e he _
    simp only [List.mem_cons, List.not_mem_nil, or_false] at he
    subst he; rfl

/-- behind all pieces -/
theorem after_ends (h : AllOk s z w a n) (hn : n ≤ 60) : EV.Ends Try.prog S3 (MO s z w a n (bG s z w a n n) n false) (.bool true) := by
  have hg : (hp s z a n (bG s z w a n n)).bs.get 10 = some (bG s z w a n n) := by
    unfold hp
    simp only [Tr.get_set, if_true]
  have L : Lead Try.prog (MO s z w a n (bG s z w a n n) n false) (MO s z w a n (bC s z w a n) n false) := by
    have := lead_row (P := Try.prog) (top := (MO s z w a n (bG s z w a n n) n false).top) (below := [lawM s z w n]) (hs := ⟨noHint, noSure⟩) (l := []) (z' := []) (t' := .fn fun q => some (.int .i64 (cO s z w a q))) hd_M hg ?_
    · refine this.trans (show Lead Try.prog _ _ from ?_)
      have e : (⟨Tr.set (.row (n * 2) [] (.fn fun q => some (.int .i64 (cO s z w a q)))) (hp s z a n (bG s z w a n n)).bs 10, (hp s z a n (bG s z w a n n)).next⟩ : AH) = hp s z a n (bC s z w a n) := by
        kernel_rfl
      rw [e]
      exact Lead.refl _
    · intro q v hq
      have hlt := rowGet_lt hq
      unfold rowGet at hq ⊢
      rw [blt_of hlt] at hq ⊢
      have e1 : (Tr.fn (gRow s z w a n)).get q = some (.int .i64 (cO s z w a q)) := gRow_eq n q hlt
      simp only [e1]
      exact hq
  refine EV.Ends.before L (EV.Ends.seg G3 (A4 s z w a n) (by simp) (EV.Ends.seg G3 (B0 s z w a n (iLt (Int.ofNat 0) (Int.ofNat n))) ?_ (outer_ends h hn n 0 (by omega))))
  intro e he _
  simp only [List.mem_cons, List.not_mem_nil, or_false] at he
  rcases he with rfl | rfl
  · show (!iEq _ _) = false
    rw [iEq_eq]; simp
  · rfl

/-- Many's loop -/
theorem many_ends (hn : n ≤ 60) : ∀ (d j : Nat), j + d = n → (∀ k, k < j → pe' s z w a k = 0) → EV.Ends Try.prog S3 (MO s z w a n (bG s z w a n j) j (iLt (Int.ofNat j) (Int.ofNat n))) (.bool true)
  | 0, j, e, h => by
    obtain rfl : j = n := by omega
    rw [lt_nat, decide_eq_false (by omega)]
    exact after_ends h hn
  | d + 1, j, e, h => by
    have hj : j < n := by omega
    rw [lt_nat, decide_eq_true hj]
    by_cases hp : pe' s z w a j = 0
    · refine EV.Ends.seg G3 (A2 s z w a n j (iLt (Int.ofNat (j + 1)) (Int.ofNat n))) ?_ (many_ends hn d (j + 1) (by omega) (fun k hk => by
        rcases Nat.lt_or_ge k j with h1 | h1
        · exact h k h1
        · obtain rfl : k = j := by omega
          exact hp))
      intro e he _
      simp only [List.mem_cons, List.mem_append, List.not_mem_nil, or_false, chM] at he
      rcases he with (rfl | rfl | rfl | rfl) | rfl | rfl | rfl
      · exact blt_of hj
      · exact blt_of (by omega)
      · exact blt_of hj
      · exact ble_of (by omega)
      · show (!iEq _ _) = false
        rw [iEq_eq, hp]; rfl
      · exact next_of (by omega)
      · rfl
    · refine EV.Ends.last (A3 s z w a n j) ?_
      intro e he _
      simp only [List.mem_cons, List.mem_append, List.not_mem_nil, or_false, chM] at he
      rcases he with (rfl | rfl | rfl | rfl) | rfl | rfl | rfl
      · exact blt_of hj
      · exact blt_of (by omega)
      · exact blt_of hj
      · exact ble_of (by omega)
      · show (!iEq _ _) = true
        rw [iEq_eq, Bool.not_eq_true', beq_eq_false_iff_ne]; exact hp
      · show (!iEq _ _) = true
        rw [iEq_eq, Bool.not_eq_true', beq_eq_false_iff_ne]; exact hp
      · show iEq _ _ = true
        rw [iEq_eq]; simp
end

/-- the law: true -/
theorem apart_read (s z w : Int) (a : Nat → Int) (n : Nat) : ReadCall Try.prog 5 [(n, row a)] [ext s z, i w, .sl 0 0 n none 1] (.bool true) := by
  by_cases hn : n ≤ 60
  · have hs := A1 s z w a n (iLt (Int.ofNat 0) (Int.ofNat n))
    unfold oCase at hs
    cases hst : stL s z w a n with
    | none => rw [hst] at hs; cases hs
    | some m =>
      rw [hst] at hs
      refine read_of_ends G3 hst (EV.Ends.seg G3 hs ?_ ?_) rfl
      · intro e he _
        simp only [List.mem_cons, List.not_mem_nil, or_false] at he
        rcases he with rfl | rfl | rfl
        · show iLt 60 (Int.ofNat n) = false
          rw [iLt_eq, decide_eq_false_iff_not]; simp only [Int.ofNat_eq_natCast]; omega
        · show (Nat.ble n n && Nat.ble (16 * n) (2 ^ 47) && Nat.ble n (2 ^ 47)) = true
          rw [ble_of (Nat.le_refl n), ble_of (by omega), ble_of (by omega)]; rfl
        · rfl
      · have hg : (hp s z a n (b0 n)).bs.get 10 = some (b0 n) := by
          unfold hp
          simp only [Tr.get_set, if_true]
        have L : Lead Try.prog (MO s z w a n (b0 n) 0 (iLt (Int.ofNat 0) (Int.ofNat n))) (MO s z w a n (bG s z w a n 0) 0 (iLt (Int.ofNat 0) (Int.ofNat n))) := by
          have := lead_row (P := Try.prog) (top := (MO s z w a n (b0 n) 0 (iLt (Int.ofNat 0) (Int.ofNat n))).top) (below := [lawM s z w n]) (hs := ⟨noHint, noSure⟩) (l := []) (z' := []) (t' := .fn (gRow s z w a 0)) hd_M hg ?_
          · have e : (⟨Tr.set (.row (n * 2) [] (.fn (gRow s z w a 0))) (hp s z a n (b0 n)).bs 10, (hp s z a n (b0 n)).next⟩ : AH) = hp s z a n (bG s z w a n 0) := by
              kernel_rfl
            rw [e] at this
            exact this
          · intro q v hq
            have hlt := rowGet_lt hq
            unfold rowGet at hq ⊢
            rw [blt_of hlt] at hq ⊢
            have e1 : (Tr.fn (gRow s z w a 0)).get q = some (i 0) := rfl
            rw [e1] at hq
            cases hq
            have e2 : (Tr.nil : Tr AV).get q = none := rfl
            simp only [e2, List.length_cons, List.length_nil]
            rcases Nat.mod_two_eq_zero_or_one q with h0 | h0 <;> simp [h0]
        exact EV.Ends.before L (many_ends hn n 0 (by omega) (fun k hk => by omega))
  · have hs := E1 s z w a n
    unfold oCase at hs
    cases hst : stL s z w a n with
    | none => rw [hst] at hs; cases hs
    | some m =>
      rw [hst] at hs
      refine read_of_ends G3 hst (EV.Ends.last hs ?_) rfl
      intro e he _
      simp only [List.mem_cons, List.not_mem_nil, or_false] at he
      subst he
      show iLt 60 (Int.ofNat n) = true
      rw [iLt_eq, decide_eq_true_eq]; simp only [Int.ofNat_eq_natCast]; omega
end Go.Proofs.Ytkbfhpahjloidaa
