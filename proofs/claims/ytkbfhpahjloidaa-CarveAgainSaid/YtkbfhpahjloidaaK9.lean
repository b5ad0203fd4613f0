/- Own text of this claim: an abstract machine over the given program form, and what follows from it. No condition. -/
import Derived.Test.YtkbfhpahjloidaaK8
set_option linter.unusedVariables false
set_option linter.unusedSimpArgs false
namespace Go.Proofs.Ytkbfhpahjloidaa
open Go Go.EV
noncomputable section
/-! Many in any memory: a contract for each way it ends, with a check -/
def isI : AV → Bool
  | .int .i64 _ => true
  | _ => false
def toI : AV → Int
  | .int _ n => n
  | _ => 0
def allI (f : Nat → AV) : Nat → Bool
  | 0 => true
  | n + 1 => allI f n && isI (f n)
/-- what a row has from somewhere on: how many cells there are, what they are, and whether all are there -/
def rowAt (h : AH) (b off : Nat) : Option (Nat × (Nat → AV) × (Nat → Bool)) :=
  match h.bs.get b with
  | some (.ro m f) => some (m, (fun j => f (off + j)), fun _ => true)
  | some (.row m _ t) => some (m, (fun j => orUndef (t.get (off + j))), fun n => allSome t.get off n)
  | _ => none
/-- the first j pieces are given away -/
def okB (s z w : Int) (a : Nat → Int) : Nat → Bool
  | 0 => true
  | j + 1 => okB s z w a j && iEq (pe' s z w a j) 0
inductive Mode where
  | ok
  | no (j : Nat)
def F23 (mode : Nat → Mode) : List AV → AH → Option (AV × Option AH × Option Bool)
  | [.agg [.int .i64 s, .int .i64 z], .int .i64 w, .sl b off n cap 1], h => match rowAt h b off with
    | some (m, f, c) => match mode h.next with
      | .ok => some (.tup [.sl (h.next + 1) 0 n (some n) 2, i (wt s z w (fun j => toI (f j)) n), i 0], some ⟨Tr.set (bC s z w (fun j => toI (f j)) n) h.bs (h.next + 1), h.next + 2⟩,
          some (Nat.ble n 900 && Nat.ble (off + n) m && c n && allI f n && okB s z w (fun j => toI (f j)) n))
      | .no j => some (.tup [.nilsl, i w, i (pe' s z w (fun j => toI (f j)) j)], some ⟨h.bs, h.next + 2⟩,
          some (Nat.ble n 900 && Nat.ble (off + n) m && c n && allI f n && Nat.blt j n && okB s z w (fun j => toI (f j)) j && !iEq (pe' s z w (fun j => toI (f j)) j) 0))
    | none => none
  | _, _ => none

theorem allI_at {f : Nat → AV} : ∀ {n : Nat}, allI f n = true → ∀ j, j < n → f j = .int .i64 (toI (f j))
  | 0, _, j, hj => by omega
  | n + 1, h, j, hj => by
    simp only [allI, Bool.and_eq_true] at h
    by_cases e : j = n
    · subst e
      revert h
      cases f j <;> simp [isI, toI]
      rename_i k x
      cases k <;> simp [isI]
    · exact allI_at h.1 j (by omega)
theorem okB_at {s z w : Int} {a : Nat → Int} : ∀ {n : Nat}, okB s z w a n = true → ∀ j, j < n → pe' s z w a j = 0
  | 0, _, j, hj => by omega
  | n + 1, h, j, hj => by
    simp only [okB, Bool.and_eq_true, iEq_eq, beq_iff_eq] at h
    by_cases e : j = n
    · subst e; exact h.2
    · exact okB_at h.1 j (by omega)
theorem rowAt_holds {h : AH} {b off m n : Nat} {f : Nat → AV} {c : Nat → Bool} (e : rowAt h b off = some (m, f, c)) (hm : off + n ≤ m) (hc : c n = true) (hi : allI f n = true) : Holds h b off n (row fun j => toI (f j)) := by
  unfold rowAt at e
  split at e
  · rename_i m' f' hb
    simp only [Option.some.injEq, Prod.mk.injEq] at e
    obtain ⟨rfl, rfl, rfl⟩ := e
    exact .inr ⟨_, f', hb, hm, fun j hj => allI_at hi j hj⟩
  · rename_i m' z t hb
    simp only [Option.some.injEq, Prod.mk.injEq] at e
    obtain ⟨rfl, rfl, rfl⟩ := e
    refine .inl ⟨_, z, _, hb, hm, fun j hj => ?_⟩
    have h1 := allSome_at n off hc (off + j) (by omega) (by omega)
    unfold rowGet
    rw [blt_of (by omega)]
    have h2 : orUndef (t.get (off + j)) = .int .i64 (toI (orUndef (t.get (off + j)))) := allI_at hi j hj
    show _ = some (AV.int .i64 (toI (orUndef (t.get (off + j)))))
    cases hg : t.get (off + j) with
    | none => rw [hg] at h1; cases h1
    | some v =>
      rw [hg] at h2
      exact congrArg some h2
  · cases e
theorem row_scalar (a : Nat → Int) (n : Nat) : ∀ j, j < n → scalar (row a j) = true := fun _ _ => rfl

theorem hq_get (s z : Int) (a : Nat → Int) (n : Nat) (blk : ABlk) : (hq s z a n blk).bs.get 9 = some blk := by
  unfold hq
  simp only [Tr.get_set, if_true]

set_option maxRecDepth 100000 in
theorem c23 (mode : Nat → Mode) : ∀ args h v g, F23 mode args h = some (v, g, some true) → CallOk Try.prog 23 args h v g := by
  intro args h v g e
  unfold F23 at e
  split at e
  · rename_i s z w b off n cap
    split at e
    · rename_i m f c hr
      split at e
      · simp only [Option.some.injEq, Prod.mk.injEq, Bool.and_eq_true, Nat.ble_eq] at e
        obtain ⟨rfl, rfl, ⟨⟨⟨q1, q2⟩, q3⟩, q4⟩, q5⟩ := e
        have hh := rowAt_holds hr q2 q3 q4
        have hC := many_make (s := s) (z := z) (w := w) (a := fun j => toI (f j)) (n := n) (fun j hj => okB_at q5 j hj) q1
        refine make_ok (pre := [ext s z, i w]) rfl hC hh (row_scalar _ n) rfl (fun x hx => ?_) (fun hl x hx => ?_) (fun hl x o hx ho => ?_) ?_ ?_
        · show (Tr.set _ _ _).get x = _
          rw [Tr.get_set, if_neg (by omega)]
        · have hx : h.next + 2 ≤ x := hx
          show (Tr.set _ _ _).get x = _
          rw [Tr.get_set, if_neg (by omega)]
          exact hl x (by omega)
        · have ho : (Tr.set (bC s z w (fun j => toI (f j)) n) h.bs (h.next + 1)).get x = some o := ho
          rw [Tr.get_set] at ho
          split at ho
          · rename_i hxe
            cases ho
            subst hxe
            refine ⟨by rw [show h.next + 1 - h.next + 8 = 9 by omega]; exact hq_get _ _ _ _ _, _, _, _, rfl, fun q v hq' => ?_⟩
            have hlt := rowGet_lt hq'
            unfold rowGet at hq'
            rw [blt_of hlt] at hq'
            cases hq'
            rfl
          · rw [hl x hx] at ho; cases ho
        · simp only [ren, rens]
          rw [show h.next + 1 - h.next + 8 = 9 by omega]
        · show (((Nat.ble h.next (h.next + 1) && Nat.blt (h.next + 1) (h.next + 2)) && (true && (true && true))) : Bool) = true
          rw [ble_of (by omega), blt_of (by omega)]; rfl
      · rename_i j hm
        simp only [Option.some.injEq, Prod.mk.injEq, Bool.and_eq_true, Nat.ble_eq, Bool.not_eq_true'] at e
        obtain ⟨rfl, rfl, ⟨⟨⟨⟨⟨q1, q2⟩, q3⟩, q4⟩, q5⟩, q6⟩, q7⟩ := e
        have hh := rowAt_holds hr q2 q3 q4
        rw [iEq_eq, beq_eq_false_iff_ne] at q7
        have hC := many_make_not (s := s) (z := z) (w := w) (a := fun j => toI (f j)) (n := n) q1 (j := j) (blt_lt q5) (fun k hk => okB_at q6 k hk) q7
        refine make_ok (pre := [ext s z, i w]) rfl hC hh (row_scalar _ n) rfl (fun x hx => rfl) (fun hl x hx => ?_) (fun hl x o hx ho => ?_) rfl rfl
        · have hx : h.next + 2 ≤ x := hx
          exact hl x (by omega)
        · have ho : h.bs.get x = some o := ho
          rw [hl x hx] at ho; cases ho
    · cases e
  · cases e
theorem G23 (mode : Nat → Mode) : EV.Good Try.prog (cutT (EV.addT S3 23 (F23 mode))) := EV.Good.addT G3 (by kernel_rfl) (fun a h v g e => by
  unfold F23 at e
  split at e
  · split at e
    · split at e <;> cases e
    · cases e
  · cases e) (c23 mode)
end
end Go.Proofs.Ytkbfhpahjloidaa
