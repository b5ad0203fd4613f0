/- Own text of this claim: an abstract machine over the given program form, and what follows from it. No condition. -/
import Derived.Test.YtkbfhpahjloidaaK10
import Derived.Test.YtkbfhpahjloidaaEvY
set_option linter.unusedVariables false
set_option linter.unusedSimpArgs false
namespace Go.EV
/-- a contract over no row, in any memory -/
theorem make_ok0 {P : Program} {f : FuncId} {args : List AV} {v v' : AV} {h h2 h' : AH}
    (hpre : scalars args = true) (hC : MakeCall P f [] args v h2)
    (hnx : h'.next = h.next + (h2.next - 8)) (hold : ∀ x, x < h.next → h'.bs.get x = h.bs.get x) (hlive : (∀ x, h.next ≤ x → h.bs.get x = none) → ∀ x, h'.next ≤ x → h'.bs.get x = none)
    (hnew : (∀ x, h.next ≤ x → h.bs.get x = none) → ∀ x o, h.next ≤ x → h'.bs.get x = some o → h2.bs.get (x - h.next + 8) = some o ∧ ∃ n z t, o = .row n z t ∧ ∀ i v, rowGet n z t i = some v → scalar v = true)
    (hv : v = ren (fun x => x - h.next + 8) v') (hi : idsP (fun x => Nat.ble h.next x && Nat.blt x h'.next) v' = true) : CallOk P f args h v' (some h') := by
  refine ⟨by show h.next ≤ h'.next; omega, fun N own ρ w cargs H hargs O hN => ?_⟩
  refine (hC (fun _ => none) w _ (HRel.empty w) (VRs.scalars hpre hargs)).mono ?_
  rintro e w' ⟨ρs, cv, rfl, v1, v2, v3, v4, v5⟩
  have hG := glue H v2 v3 v4 hnx hold (hlive H.live) (hnew H.live)
  have hext : Ext ρ (fun b => if b < h.next then ρ b else if b < h'.next then ρs (b - h.next + 8) else none) := by
    intro x cx hx
    have : x < h.next := by
      rcases Nat.lt_or_ge x h.next with h1 | h1
      · exact h1
      · rw [H.fresh x h1] at hx; cases hx
    simp only [if_pos this]; exact hx
  refine ⟨_, cv, rfl, ?_, hG, v3.all N own hN, ?_, hext, fun x hx => if_pos hx⟩
  · rw [hv] at v1
    refine VR.renP (p := fun x => Nat.ble h.next x && Nat.blt x h'.next) (fun x hx => ?_) hi v1
    simp only [Bool.and_eq_true, Nat.ble_eq] at hx
    have := blt_lt hx.2
    simp only [if_neg (show ¬ x < h.next by omega), if_pos this]
  · intro x cx h8 hx
    by_cases e : x < h.next
    · simp only [if_pos e] at hx
      exact O x cx h8 hx
    · simp only [if_neg e] at hx
      split at hx
      · rcases v4 _ cx (by omega) hx with q | q
        · exact .inl (Nat.le_trans hN q)
        · exact q.elim
      · cases hx
end Go.EV
namespace Go.Proofs.Ytkbfhpahjloidaa
open Go Go.EV
noncomputable section
/-! Many of nothing -/
def lvA : Bool → AV
  | false => .nilsl
  | true => .slz false
section
variable (s z w : Int) (k : Bool)
def hz (b : ABlk) : AH := ⟨Tr.set b (Tr.set (.row 2 [i s, i z] .nil) .nil 8) 9, 10⟩
def NZ (b : ABlk) : AM :=
  ⟨⟨23, ⟨none, []⟩, 43, setT [(1, i w), (2, lvA k), (3, .ptr 8 0), (9, .sl 9 0 0 (some 0) 2), (10, i w), (18, N 0), (19, N 0), (20, .bool false)], tN⟩, [], hz s z b, ⟨noHint, noSure⟩, []⟩
def stZ : Option AM := startA Try.prog 23 [ext s z, i w, lvA k] (roHeap []) noHint
theorem Z1 : oCase none (fun m => segX Try.prog S3 5 (withH (hints noHint 23 []) m) sM) (stZ s z w k) = some (NZ s z w k (.row 0 [i 0, i 0] .nil), logOf [] []) := by
  cases k <;> kernel_rfl
theorem Z4 : lastX Try.prog S3 3 (withH (hints noHint 23 []) (NZ s z w k (bC s z w (fun _ => 0) 0))) =
    some (.tup [.sl 9 0 0 (some 0) 2, i w, i 0], hz s z (bC s z w (fun _ => 0) 0), logOf [] []) := by
  cases k <;> kernel_rfl
theorem hd_Z {b : ABlk} : isDreg (NZ s z w k b).top.todo = false := by
  show isDreg tN = false
  kernel_rfl
theorem many_none : MakeCall Try.prog 23 [] [ext s z, i w, lvA k] (.tup [.sl 9 0 0 (some 0) 2, i w, i 0]) (hz s z (bC s z w (fun _ => 0) 0)) := by
  have hs := Z1 s z w k
  unfold oCase at hs
  cases hst : stZ s z w k with
  | none => rw [hst] at hs; cases hs
  | some m =>
    rw [hst] at hs
    have hg : (hz s z (.row 0 [i 0, i 0] .nil)).bs.get 9 = some (.row 0 [i 0, i 0] .nil) := by
      unfold hz
      simp only [Tr.get_set, if_true]
    have L : Lead Try.prog (NZ s z w k (.row 0 [i 0, i 0] .nil)) (NZ s z w k (bC s z w (fun _ => 0) 0)) := by
      have := lead_row (P := Try.prog) (top := (NZ s z w k (.row 0 [i 0, i 0] .nil)).top) (below := []) (hs := ⟨noHint, noSure⟩) (l := []) (z' := []) (t' := .fn fun q => some (.int .i64 (cO s z w (fun _ => 0) q))) (hd_Z s z w k) hg ?_
      · have e : (⟨Tr.set (.row 0 [] (.fn fun q => some (.int .i64 (cO s z w (fun _ => 0) q)))) (hz s z (.row 0 [i 0, i 0] .nil)).bs 9, (hz s z (.row 0 [i 0, i 0] .nil)).next⟩ : AH) = hz s z (bC s z w (fun _ => 0) 0) := by
          kernel_rfl
        rw [e] at this
        exact this
      · intro q v hq'
        have hlt := rowGet_lt hq'
        omega
    have L0 := lead_seg G3 hs (logOf_held (by simp))
    exact make_of_lead G3 hst (L0.trans L) (Z4 s z w k) (logOf_held (by simp))
end
end
end Go.Proofs.Ytkbfhpahjloidaa
