/- Own text of this claim: an abstract machine over the given program form, and what follows from it. No condition. -/
import Derived.Test.YtkbfhpahjloidaaK13
set_option linter.unusedVariables false
set_option linter.unusedSimpArgs false
namespace Go.Proofs.Ytkbfhpahjloidaa
open Go Go.EV
noncomputable section
/-! Same in any memory: two rows whose cells are alike -/
def eqI (f g : Nat → AV) : Nat → Bool
  | 0 => true
  | n + 1 => eqI f g n && iEq (toI (f n)) (toI (g n))
theorem eqI_at {f g : Nat → AV} : ∀ {n : Nat}, eqI f g n = true → ∀ j, j < n → toI (f j) = toI (g j)
  | 0, _, j, hj => by omega
  | n + 1, h, j, hj => by
    simp only [eqI, Bool.and_eq_true, iEq_eq, beq_iff_eq] at h
    by_cases e : j = n
    · subst e; exact h.2
    · exact eqI_at h.1 j (by omega)
def F25 : List AV → AH → Option (AV × Option AH × Option Bool)
  | [.sl b off n cap 2, .sl b' off' n' cap' 2], h => match rowAt h b off with
    | some (m, f, c) => match rowAt h b' off' with
      | some (m', f', c') => some (.bool true, none, some (Nat.beq n n' && Nat.ble n 900 && Nat.ble (off + n * 2) m && Nat.ble (off' + n' * 2) m' && c (n * 2) && c' (n' * 2) && allI f (n * 2) && allI f' (n' * 2) && eqI f f' (n * 2)))
      | none => none
    | none => none
  | _, _ => none
theorem Holds.same {h : AH} {b off n : Nat} {f g : Nat → AV} (hh : Holds h b off n f) (e : ∀ j, j < n → f j = g j) : Holds h b off n g := by
  rcases hh with ⟨m, z, t, q1, q2, q3⟩ | ⟨m, f', q1, q2, q3⟩
  · exact .inl ⟨m, z, t, q1, q2, fun j hj => by rw [q3 j hj, e j hj]⟩
  · exact .inr ⟨m, f', q1, q2, fun j hj => by rw [q3 j hj, e j hj]⟩
set_option maxRecDepth 100000 in
theorem c25 : ∀ args h v g, F25 args h = some (v, g, some true) → CallOk Try.prog 25 args h v g := by
  intro args h v g e
  unfold F25 at e
  split at e
  · rename_i b off n cap b' off' n' cap'
    split at e
    · rename_i m f c hr
      split at e
      · rename_i m' f' c' hr'
        simp only [Option.some.injEq, Prod.mk.injEq, Bool.and_eq_true, Nat.ble_eq, Nat.beq_eq] at e
        obtain ⟨rfl, rfl, ⟨⟨⟨⟨⟨⟨⟨q0, q1⟩, q2⟩, q3⟩, q4⟩, q5⟩, q6⟩, q7⟩, q8⟩ := e
        subst q0
        have hh := rowAt_holds hr q2 q4 q6
        have hh' := rowAt_holds hr' q3 q5 q7
        have hh2 := Holds.same hh' (g := row fun j => toI (f j)) (fun j hj => by
          show AV.int .i64 (toI (f' j)) = .int .i64 (toI (f j))
          rw [eqI_at q8 j hj])
        exact read2_ok (same_read (c := fun j => toI (f j)) q1) hh (row_scalar _ _) hh2 (row_scalar _ _) rfl
      · cases e
    · cases e
  · cases e
/-- Many, of a row or of nothing -/
def nA (s z w : Int) (h : AH) : Option (AV × Option AH × Option Bool) := some (.tup [.sl (h.next + 1) 0 0 (some 0) 2, i w, i 0], some ⟨Tr.set (bC s z w (fun _ => 0) 0) h.bs (h.next + 1), h.next + 2⟩, none)
def F23n (mode : Nat → Mode) : List AV → AH → Option (AV × Option AH × Option Bool)
  | [.agg [.int .i64 s, .int .i64 z], .int .i64 w, .nilsl], h => nA s z w h
  | [.agg [.int .i64 s, .int .i64 z], .int .i64 w, .slz false], h => nA s z w h
  | args, h => F23 mode args h
theorem nA_ok (s z w : Int) (k : Bool) (h : AH) {v : AV} {g : Option AH} (e : nA s z w h = some (v, g, none)) : CallOk Try.prog 23 [ext s z, i w, lvA k] h v g := by
  unfold nA at e
  simp only [Option.some.injEq, Prod.mk.injEq, and_true] at e
  obtain ⟨rfl, rfl⟩ := e
  refine make_ok0 (by cases k <;> rfl) (many_none s z w k) rfl (fun x hx => ?_) (fun hl x hx => ?_) (fun hl x o hx ho => ?_) ?_ ?_
  · show (Tr.set _ _ _).get x = _
    rw [Tr.get_set, if_neg (by omega)]
  · have hx : h.next + 2 ≤ x := hx
    show (Tr.set _ _ _).get x = _
    rw [Tr.get_set, if_neg (by omega)]
    exact hl x (by omega)
  · have ho : (Tr.set (bC s z w (fun _ => 0) 0) h.bs (h.next + 1)).get x = some o := ho
    rw [Tr.get_set] at ho
    split at ho
    · rename_i hxe
      cases ho
      subst hxe
      refine ⟨by rw [show h.next + 1 - h.next + 8 = 9 by omega]; unfold hz; simp only [Tr.get_set, if_true], _, _, _, rfl, fun q v hq' => ?_⟩
      have hlt := rowGet_lt hq'
      omega
    · rw [hl x hx] at ho; cases ho
  · simp only [ren, rens]
    rw [show h.next + 1 - h.next + 8 = 9 by omega]
  · show (((Nat.ble h.next (h.next + 1) && Nat.blt (h.next + 1) (h.next + 2)) && (true && (true && true))) : Bool) = true
    rw [ble_of (by omega), blt_of (by omega)]; rfl
theorem F23_none {mode : Nat → Mode} {a : List AV} {h : AH} {v : AV} {g : Option AH} (e : F23 mode a h = some (v, g, none)) : False := by
  unfold F23 at e
  split at e
  · split at e
    · split at e <;> cases e
    · cases e
  · cases e
theorem G23n (mode : Nat → Mode) : EV.Good Try.prog (cutT (EV.addT S3 23 (F23n mode))) := EV.Good.addT G3 (by kernel_rfl) (fun a h v g e => by
  unfold F23n at e
  split at e
  · exact nA_ok _ _ _ false _ e
  · exact nA_ok _ _ _ true _ e
  · exact (F23_none e).elim) (fun a h v g e => by
  unfold F23n at e
  split at e
  · cases e
  · cases e
  · exact c23 mode _ _ _ _ e)
def TA (mode : Nat → Mode) : TSum := EV.addU (EV.addT S3 23 (F23n mode)) 25 F25
theorem GA (mode : Nat → Mode) : EV.Good Try.prog (cutT (TA mode)) := EV.Good.addU (G23n mode) (by kernel_rfl) (fun a h v g e => by
  unfold F25 at e
  split at e
  · split at e
    · split at e <;> cases e
    · cases e
  · cases e) c25
end
end Go.Proofs.Ytkbfhpahjloidaa
