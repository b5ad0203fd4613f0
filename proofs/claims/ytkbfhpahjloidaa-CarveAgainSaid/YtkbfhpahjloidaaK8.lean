/- Own text of this claim: an abstract machine over the given program form, and what follows from it. No condition. -/
import Derived.Test.YtkbfhpahjloidaaK6
import Derived.Test.YtkbfhpahjloidaaEvX
set_option linter.unusedVariables false
set_option linter.unusedSimpArgs false
namespace Go.Proofs.Ytkbfhpahjloidaa
open Go Go.EV
noncomputable section
/-! Many alone -/
def ex23 : Option AM := startA Try.prog 23 [ext 0 100, i 0, .sl 0 0 2 none 1] (roHeap [(2, row fun _ => 4)]) noHint
def tN : List AItem := todoAt Try.prog S3 5 ex23
section
variable (s z w : Int) (a : Nat → Int) (n : Nat)
def hq (b : ABlk) : AH := ⟨Tr.set b (Tr.set (.row 2 [i s, i z] .nil) (Tr.set (.ro n (row a)) .nil 0) 8) 9, 10⟩
def NH (blk : ABlk) (j : Nat) (b : Bool) : AM :=
  ⟨⟨23, ⟨none, []⟩, 43, setT [(1, i w), (2, .sl 0 0 n none 1), (3, .ptr 8 0), (9, .sl 9 0 n (some n) 2), (10, i (wt s z w a j)), (18, N n), (19, N j), (20, .bool b)], tN⟩, [], hq s z a n blk, ⟨noHint, noSure⟩, []⟩
def stM : Option AM := startA Try.prog 23 [ext s z, i w, .sl 0 0 n none 1] (roHeap [(n, row a)]) noHint
theorem M1 (b : Bool) : oCase none (fun m => segX Try.prog S3 5 (withH (hints (tell 23 [(20, b)]) 23 [(15, .sure)]) m) sM) (stM s z w a n) =
    some (NH s z w a n (b0 n) 0 b, logOf [(true, Nat.ble n n && Nat.ble (16 * n) (2 ^ 47) && Nat.ble n (2 ^ 47), true), (true, iLt (Int.ofNat 0) (Int.ofNat n), b)] []) := by
  kernel_rfl
theorem M2 (j : Nat) (b : Bool) : segX Try.prog S3 11 (withH (hints (tell 23 [(37, false), (20, b)]) 23 (uM j)) (NH s z w a n (bG s z w a n j) j true)) sM =
    some (NH s z w a n (bG s z w a n (j + 1)) (j + 1) b, logOf (chM n j ++ [(true, !iEq (pe' s z w a j) 0, false), (true, iEq (W (Int.ofNat j + 1)) (Int.ofNat (j + 1)), true), (true, iLt (Int.ofNat (j + 1)) (Int.ofNat n), b)]) []) := by
  kernel_rfl
theorem M3 (j : Nat) : lastX Try.prog S3 4 (withH (hints (tell 23 [(37, true)]) 23 (uM j)) (NH s z w a n (bG s z w a n j) j true)) =
    some (.tup [.nilsl, i w, i (pe' s z w a j)], hq s z a n (bG s z w a n (j + 1)), logOf (chM n j ++ [(true, !iEq (pe' s z w a j) 0, true)]) []) := by
  kernel_rfl
theorem M4 : lastX Try.prog S3 3 (withH (hints noHint 23 []) (NH s z w a n (bC s z w a n) n false)) =
    some (.tup [.sl 9 0 n (some n) 2, i (wt s z w a n), i 0], hq s z a n (bC s z w a n), logOf [] []) := by
  kernel_rfl
end

/-- a run that comes to an answer, and to a memory -/
def EndsH (P : Program) (S : Sum) (m : AM) (v : AV) (h : AH) : Prop := ∃ m1 k hs l, Lead P m m1 ∧ lastX P S k (withH hs m1) = some (v, h, l) ∧ LogOk l
theorem EndsH.before {P : Program} {S : Sum} {m m' : AM} {v : AV} {h : AH} (L : Lead P m m') (e : EndsH P S m' v h) : EndsH P S m v h := by
  obtain ⟨m1, k, hs, l, e1, e2, e3⟩ := e
  exact ⟨m1, k, hs, l, L.trans e1, e2, e3⟩

section
variable {s z w : Int} {a : Nat → Int} {n : Nat}
theorem hd_N {j : Nat} {b : Bool} {blk : ABlk} : isDreg (NH s z w a n blk j b).top.todo = false := by
  show isDreg tN = false
  kernel_rfl
theorem step_log (hn : n ≤ 900) {j : Nat} (hj : j < n) {x : Bool × Bool × Bool} (he : x ∈ chM n j) : x.2.1 = x.2.2 := by
  simp only [chM, List.mem_cons, List.not_mem_nil, or_false] at he
  rcases he with rfl | rfl | rfl | rfl
  · exact blt_of hj
  · exact blt_of (by omega)
  · exact blt_of hj
  · exact ble_of (by omega)

theorem many_done (h : AllOk s z w a n) (hn : n ≤ 900) : EndsH Try.prog S3 (NH s z w a n (bG s z w a n n) n false) (.tup [.sl 9 0 n (some n) 2, i (wt s z w a n), i 0]) (hq s z a n (bC s z w a n)) := by
  have hg : (hq s z a n (bG s z w a n n)).bs.get 9 = some (bG s z w a n n) := by
    unfold hq
    simp only [Tr.get_set, if_true]
  have L : Lead Try.prog (NH s z w a n (bG s z w a n n) n false) (NH s z w a n (bC s z w a n) n false) := by
    have := lead_row (P := Try.prog) (top := (NH s z w a n (bG s z w a n n) n false).top) (below := []) (hs := ⟨noHint, noSure⟩) (l := []) (z' := []) (t' := .fn fun q => some (.int .i64 (cO s z w a q))) hd_N hg ?_
    · have e : (⟨Tr.set (.row (n * 2) [] (.fn fun q => some (.int .i64 (cO s z w a q)))) (hq s z a n (bG s z w a n n)).bs 9, (hq s z a n (bG s z w a n n)).next⟩ : AH) = hq s z a n (bC s z w a n) := by
        kernel_rfl
      rw [e] at this
      exact this
    · intro q v hq'
      have hlt := rowGet_lt hq'
      unfold rowGet at hq' ⊢
      rw [blt_of hlt] at hq' ⊢
      have e1 : (Tr.fn (gRow s z w a n)).get q = some (.int .i64 (cO s z w a q)) := gRow_eq n q hlt
      simp only [e1]
      exact hq'
  exact EndsH.before L ⟨_, _, _, _, Lead.refl _, M4 s z w a n, logOf_held (by simp)⟩

theorem many_all (h : AllOk s z w a n) (hn : n ≤ 900) : ∀ (d j : Nat), j + d = n → EndsH Try.prog S3 (NH s z w a n (bG s z w a n j) j (iLt (Int.ofNat j) (Int.ofNat n))) (.tup [.sl 9 0 n (some n) 2, i (wt s z w a n), i 0]) (hq s z a n (bC s z w a n))
  | 0, j, e => by
    obtain rfl : j = n := by omega
    rw [lt_nat, decide_eq_false (by omega)]
    exact many_done h hn
  | d + 1, j, e => by
    have hj : j < n := by omega
    rw [lt_nat, decide_eq_true hj]
    refine EndsH.before (lead_seg G3 (M2 s z w a n j (iLt (Int.ofNat (j + 1)) (Int.ofNat n))) (logOf_held ?_)) (many_all h hn d (j + 1) (by omega))
    intro x he _
    simp only [List.mem_append, List.mem_cons, List.not_mem_nil, or_false] at he
    rcases he with he | rfl | rfl | rfl
    · exact step_log hn hj he
    · show (!iEq _ _) = false
      rw [iEq_eq, h j hj]; rfl
    · exact next_of (by omega)
    · rfl

theorem many_fail (hn : n ≤ 900) {j1 : Nat} (hj1 : j1 < n) (h : ∀ k, k < j1 → pe' s z w a k = 0) (hf : pe' s z w a j1 ≠ 0) : ∀ (d j : Nat), j + d = j1 → EndsH Try.prog S3 (NH s z w a n (bG s z w a n j) j (iLt (Int.ofNat j) (Int.ofNat n))) (.tup [.nilsl, i w, i (pe' s z w a j1)]) (hq s z a n (bG s z w a n (j1 + 1)))
  | 0, j, e => by
    obtain rfl : j = j1 := by omega
    rw [lt_nat, decide_eq_true hj1]
    refine ⟨_, _, _, _, Lead.refl _, M3 s z w a n j, logOf_held ?_⟩
    intro x he _
    simp only [List.mem_append, List.mem_cons, List.not_mem_nil, or_false] at he
    rcases he with he | rfl
    · exact step_log hn hj1 he
    · show (!iEq _ _) = true
      rw [iEq_eq, Bool.not_eq_true', beq_eq_false_iff_ne]; exact hf
  | d + 1, j, e => by
    have hj : j < n := by omega
    rw [lt_nat, decide_eq_true hj]
    refine EndsH.before (lead_seg G3 (M2 s z w a n j (iLt (Int.ofNat (j + 1)) (Int.ofNat n))) (logOf_held ?_)) (many_fail hn hj1 h hf d (j + 1) (by omega))
    intro x he _
    simp only [List.mem_append, List.mem_cons, List.not_mem_nil, or_false] at he
    rcases he with he | rfl | rfl | rfl
    · exact step_log hn hj he
    · show (!iEq _ _) = false
      rw [iEq_eq, h j (by omega)]; rfl
    · exact next_of (by omega)
    · rfl

theorem many_start (hn : n ≤ 900) {v : AV} {hx : AH} (e : EndsH Try.prog S3 (NH s z w a n (bG s z w a n 0) 0 (iLt (Int.ofNat 0) (Int.ofNat n))) v hx) : MakeCall Try.prog 23 [(n, row a)] [ext s z, i w, .sl 0 0 n none 1] v hx := by
  have hs := M1 s z w a n (iLt (Int.ofNat 0) (Int.ofNat n))
  unfold oCase at hs
  cases hst : stM s z w a n with
  | none => rw [hst] at hs; cases hs
  | some m =>
    rw [hst] at hs
    have hg : (hq s z a n (b0 n)).bs.get 9 = some (b0 n) := by
      unfold hq
      simp only [Tr.get_set, if_true]
    have L : Lead Try.prog (NH s z w a n (b0 n) 0 (iLt (Int.ofNat 0) (Int.ofNat n))) (NH s z w a n (bG s z w a n 0) 0 (iLt (Int.ofNat 0) (Int.ofNat n))) := by
      have := lead_row (P := Try.prog) (top := (NH s z w a n (b0 n) 0 (iLt (Int.ofNat 0) (Int.ofNat n))).top) (below := []) (hs := ⟨noHint, noSure⟩) (l := []) (z' := []) (t' := .fn (gRow s z w a 0)) hd_N hg ?_
      · have e : (⟨Tr.set (.row (n * 2) [] (.fn (gRow s z w a 0))) (hq s z a n (b0 n)).bs 9, (hq s z a n (b0 n)).next⟩ : AH) = hq s z a n (bG s z w a n 0) := by
          kernel_rfl
        rw [e] at this
        exact this
      · intro q v hq'
        have hlt := rowGet_lt hq'
        unfold rowGet at hq' ⊢
        rw [blt_of hlt] at hq' ⊢
        have e1 : (Tr.fn (gRow s z w a 0)).get q = some (i 0) := rfl
        rw [e1] at hq'
        cases hq'
        have e2 : (Tr.nil : Tr AV).get q = none := rfl
        simp only [e2, List.length_cons, List.length_nil]
        rcases Nat.mod_two_eq_zero_or_one q with h0 | h0 <;> simp [h0]
    obtain ⟨m1, k, hs1, l, q1, q2, q3⟩ := EndsH.before L e
    have L0 := lead_seg G3 hs (logOf_held (by
      intro x he _
      simp only [List.mem_cons, List.not_mem_nil, or_false] at he
      rcases he with rfl | rfl
      · show (Nat.ble n n && Nat.ble (16 * n) (2 ^ 47) && Nat.ble n (2 ^ 47)) = true
        rw [ble_of (Nat.le_refl n), ble_of (by omega), ble_of (by omega)]; rfl
      · rfl))
    exact make_of_lead G3 hst (L0.trans q1) q2 q3

/-- Many: all pieces are given away -/
theorem many_make (h : AllOk s z w a n) (hn : n ≤ 900) : MakeCall Try.prog 23 [(n, row a)] [ext s z, i w, .sl 0 0 n none 1] (.tup [.sl 9 0 n (some n) 2, i (wt s z w a n), i 0]) (hq s z a n (bC s z w a n)) :=
  many_start hn (many_all h hn n 0 (by omega))
/-- Many: the first that is not -/
theorem many_make_not (hn : n ≤ 900) {j : Nat} (hj : j < n) (h : ∀ k, k < j → pe' s z w a k = 0) (hf : pe' s z w a j ≠ 0) : MakeCall Try.prog 23 [(n, row a)] [ext s z, i w, .sl 0 0 n none 1] (.tup [.nilsl, i w, i (pe' s z w a j)]) (hq s z a n (bG s z w a n (j + 1))) :=
  many_start hn (many_fail hn hj h hf j 0 (by omega))
end
end
end Go.Proofs.Ytkbfhpahjloidaa
