/- Own text of this claim: an abstract machine over the given program form, and what follows from it. No condition. -/
import Derived.Test.YtkbfhpahjloidaaC5
import Derived.Test.YtkbfhpahjloidaaRows
import Derived.Lib.SmallJoins
set_option linter.unusedVariables false
set_option linter.unusedSimpArgs false
namespace Go.Proofs.Ytkbfhpahjloidaa
open Go Go.EV Go.ChangeShapes Go.WideShapes Go.ChangeAt Go.RowKit Go.Joins Go.Deep

theorem own : ownKnob Try.prog.godebug = none := by kernel_rfl
theorem laid : laidOutB Try.prog = true := by kernel_rfl
theorem under23 : ∃ f0 f1, Try.prog.underlying 23 = some (.struct #[f0, f1]) ∧ oneCellFields Try.prog #[f0, f1] = true ∧ Try.prog.underlying f0.type = some (.int .i64) ∧ Try.prog.underlying f1.type = some (.int .i64) :=
  ⟨_, _, Try.underlying23, by kernel_rfl, by kernel_rfl, by kernel_rfl⟩

/-- an extent that comes in: two numbers -/
theorem open_ext {H : Type} {enc : TypeId × Value → H} {W : World} {base : Nat} {sp : Nat → Bool} {held : Bool} {r : Reach} {b0 : Nat} {v : Value} {d : DataW H} {p : List MemPlace}
    (hv : Value.okWide Try.prog W r b0 23 v) (h : DataW.Trod enc Try.prog W base sp held 23 v d p) : ∃ s z, v = .agg #[.int .i64 s, .int .i64 z] := by
  obtain ⟨f0, f1, h1, h2, h3, h4⟩ := under23
  obtain ⟨v0, v1, y0, y1, m, rfl, rfl, rfl, hy0, hy1⟩ := open_agg2 h1 h2 (by kernel_rfl) hv h
  obtain ⟨s, hs, _⟩ := DataW.trod_int h3 hy0
  obtain ⟨z, hz, _⟩ := DataW.trod_int h4 hy1
  simp only [List.cons.injEq, and_true] at hs hz
  exact ⟨s, z, by rw [hs, hz]⟩

theorem vr_ext (ρ : Rho) (s z : Int) : VR ρ (ext s z) (.agg #[.int .i64 s, .int .i64 z]) := by
  simp only [VR, VRs]
  exact ⟨_, rfl, _, _, rfl, rfl, _, _, rfl, rfl, rfl⟩

set_option maxRecDepth 100000 in
theorem order_lifted (os : Os) (started : os.Started) (H : Type) (enc : TypeId × Value → H) :
    ReturnsInHanded {} Try.checked os 7 .any (Rows.carveOrderSpec.pre6 enc Try.prog Try.f7 Rows.carveOrderRow.domain false) (Rows.carveOrderSpec.post enc Try.prog Try.f7 false true false false) := by
  refine returnsInHanded_of_change (C := Try.checked) own started (by kernel_rfl) Try.func7
    (ChangeSpec.witness6 (enc := enc) (C := Try.checked) false ⟨#[], #[.agg #[.int .i64 0, .int .i64 0], .agg #[.int .i64 0, .int .i64 0], .agg #[.int .i64 0, .int .i64 0]], []⟩ 8 (by kernel_rfl) (by kernel_rfl) (by kernel_rfl) (by kernel_rfl)) ?_
  intro W base args ds gs before hval0 hW hcnd _
  have hval : ∀ (j : Nat) t v, Try.f7.params[j]? = some t → args[j]? = some v → Value.okWide Try.prog W .any base t v := hval0
  have hW' := hW
  obtain ⟨p, q, hA0, hV, rfl, hfz, hnd⟩ := hW
  have hA : DataW.TrodAll enc Try.prog W 0 (fun _ => true) true Try.f7.params.toList args.toList ds p := hA0
  rw [Try.params7] at hA hval
  obtain ⟨v0, v1, v2, d0, d1, d2, p0, p1, p2, rfl, rfl, rfl, h0, h1, h2⟩ := trodAll_three hA
  obtain ⟨rfl, rfl⟩ := trodVars_none hV
  obtain ⟨s, z, rfl⟩ := open_ext (hval 0 23 v0 rfl rfl) h0
  obtain ⟨s', z', rfl⟩ := open_ext (hval 1 23 v1 rfl rfl) h1
  obtain ⟨s2, z2, rfl⟩ := open_ext (hval 2 23 v2 rfl rfl) h2
  refine (order_pure s z s' z' s2 z2 W.heap.size (fun _ => False) (fun _ => none) W [_, _, _] (by
    simp only [VRs]
    exact ⟨_, _, rfl, vr_ext _ _ _, _, _, rfl, vr_ext _ _ _, _, _, rfl, vr_ext _ _ _, rfl⟩) (Nat.le_refl _)).mono fun e W' ⟨c, he, hc, hk⟩ => ?_
  subst he
  rw [VR_bool hc]
  exact ⟨_, rfl, law_post (tb := 4) laid (by kernel_rfl) (by kernel_rfl) (by kernel_rfl) rfl rfl hW' hk⟩

theorem order_holds : Rows.CarveOrderSaid :=
  OpenClaim.holds_of_wide 7 Try.f7 rfl rfl rfl rfl rfl rfl rfl ⟨rfl, rfl, rfl, rfl, rfl⟩ rfl rfl rfl rfl rfl (by kernel_rfl) Try.func7 (by kernel_rfl)
    (of_decide_eq_true (by kernel_rfl)) (by unfold Func.isWrapper; first | (rw [if_pos (by decide +kernel)]; kernel_rfl) | (rw [if_neg (by decide +kernel)]; exact ⟨rfl, rfl⟩))
    (fun os started H enc _ => order_lifted os started H enc)
#print axioms order_holds
end Go.Proofs.Ytkbfhpahjloidaa
