/- CarveApart: for every extent, water and list of sizes the law returns true, and its arguments read as before. No condition. -/
import Derived.Test.YtkbfhpahjloidaaK7
set_option linter.unusedVariables false
set_option linter.unusedSimpArgs false
namespace Go.Proofs.Ytkbfhpahjloidaa
open Go Go.EV Go.ChangeShapes Go.WideShapes Go.ChangeAt Go.RowKit Go.Joins Go.Deep

set_option maxRecDepth 100000 in
theorem apart_lifted (os : Os) (started : os.Started) (H : Type) (enc : TypeId × Value → H) :
    ReturnsInHanded {} Try.checked os 5 .any (Rows.carveApartSpec.pre6 enc Try.prog Try.f5 Rows.carveApartRow.domain false) (Rows.carveApartSpec.post enc Try.prog Try.f5 false true false false) := by
  refine returnsInHanded_of_change (C := Try.checked) own started (by kernel_rfl) Try.func5
    (ChangeSpec.witness6 (enc := enc) (C := Try.checked) false ⟨#[], #[.agg #[.int .i64 0, .int .i64 0], .int .i64 0, .slice none 0 0], []⟩ 8 (by kernel_rfl) (by kernel_rfl) (by kernel_rfl) (by kernel_rfl)) ?_
  intro W base args ds gs before hval0 hW hcnd _
  have hval : ∀ (j : Nat) t v, Try.f5.params[j]? = some t → args[j]? = some v → Value.okWide Try.prog W .any base t v := hval0
  have hW' := hW
  obtain ⟨p, q, hA0, hV, rfl, hfz, hnd⟩ := hW
  have hA : DataW.TrodAll enc Try.prog W 0 (fun _ => true) true Try.f5.params.toList args.toList ds p := hA0
  rw [Try.params5] at hA hval
  obtain ⟨v0, _, d0, _, p0, _, e0, rfl, rfl, h0, hA⟩ := trodAll_cons hA
  obtain ⟨v1, _, d1, _, p1, _, rfl, rfl, rfl, h1, hA⟩ := trodAll_cons hA
  obtain ⟨v2, _, d2, _, p2, _, rfl, rfl, rfl, h2, hA⟩ := trodAll_cons hA
  obtain ⟨rfl, rfl, rfl⟩ := trodAll_nil hA
  have e0 : args = #[v0, v1, v2] := by cases args; simp_all
  subst e0
  obtain ⟨rfl, rfl⟩ := trodVars_none hV
  obtain ⟨s, z, rfl⟩ := open_ext (hval 0 23 v0 rfl rfl) h0
  obtain ⟨w, rfl, rfl, rfl, _⟩ := open_int (k := .i64) (by kernel_rfl) (hval 1 3 v1 rfl rfl) h1
  have done : ∀ {e : Ending} {W' : World}, (∃ c, e = .returned c ∧ VR (fun _ => none) (.bool true) c ∧ Keep W.heap.size (fun _ => False) W W') → ∃ v, e = .returned v ∧ Rows.carveApartSpec.post enc Try.prog Try.f5 false true false false W #[.agg #[.int .i64 s, .int .i64 z], .int .i64 w, v2] v W' := by
    rintro e W' ⟨c, he, hc, hk⟩
    subst he
    rw [VR_bool hc]
    exact ⟨_, rfl, law_post (tb := 4) laid (by kernel_rfl) (by kernel_rfl) (by kernel_rfl) rfl rfl hW' hk⟩
  have he : Try.prog.underlying 36 = some (.slice 3) := by kernel_rfl
  rcases open_list he (by kernel_rfl) (by kernel_rfl) (hval 2 36 v2 rfl rfl) h2 with rfl | ⟨a, k, rfl⟩ | ⟨n, c, cb, H1, hv⟩
  · refine (nil_pure s z w W.heap.size (fun _ => False) (fun _ => none) W [_, _, _] (by
      simp only [VRs]
      exact ⟨_, _, rfl, vr_ext _ _ _, _, _, rfl, vr_int _ _, _, _, rfl, by simp only [VR], rfl⟩) (Nat.le_refl _)).mono fun e W' h => done h
  · refine (slz_pure s z w W.heap.size (fun _ => False) (fun _ => none) W [_, _, _] (by
      simp only [VRs]
      exact ⟨_, _, rfl, vr_ext _ _ _, _, _, rfl, vr_int _ _, _, _, rfl, by simp only [VR]; exact ⟨a, k, rfl, fun h => by cases h⟩, rfl⟩) (Nat.le_refl _)).mono fun e W' h => done h
  · refine (apart_read s z w c n W.heap.size (fun _ => False) _ W [_, _, _] H1 (by
      simp only [VRs]
      exact ⟨_, _, rfl, vr_ext _ _ _, _, _, rfl, vr_int _ _, _, _, rfl, hv, rfl⟩) (Nat.le_refl _)).mono fun e W' ⟨c, he, hc, hk⟩ => done ⟨c, he, VR.scalar rfl hc, hk⟩

theorem apart_holds : Rows.CarveApartSaid :=
  OpenClaim.holds_of_wide 5 Try.f5 rfl rfl rfl rfl rfl rfl rfl ⟨rfl, rfl, rfl, rfl, rfl⟩ rfl rfl rfl rfl rfl (by kernel_rfl) Try.func5 (by kernel_rfl)
    (of_decide_eq_true (by kernel_rfl)) (by unfold Func.isWrapper; first | (rw [if_pos (by decide +kernel)]; kernel_rfl) | (rw [if_neg (by decide +kernel)]; exact ⟨rfl, rfl⟩))
    (fun os started H enc _ => apart_lifted os started H enc)
#print axioms apart_holds
end Go.Proofs.Ytkbfhpahjloidaa
