/- LayoutApart: for every two keys, fields and place the law returns true, and its arguments read as before. No condition. -/
import Derived.Test.YtggpbcgkjalepaaD5
import Derived.Test.YtggpbcgkjalepaaEvR
import Derived.Test.YtggpbcgkjalepaaDL
set_option linter.unusedVariables false
set_option linter.unusedSimpArgs false
namespace Go.Proofs.Ytggpbcgkjalepaa
open Go Go.EV Go.ChangeShapes Go.WideShapes Go.ChangeAt Go.RowKit Go.Joins Go.Deep

theorem G4 : EV.Good Try.prog S4 := G3.add (F := F18) (fun args v h => by
  unfold F18 at h
  split at h
  · simp only [Option.some.injEq] at h; subst h; exact live_pure
  · cases h) (by kernel_rfl)

set_option maxRecDepth 100000 in
theorem apart_lifted (os : Os) (started : os.Started) (H : Type) (enc : TypeId × Value → H) :
    ReturnsInHanded {} Try.checked os 4 .any (Rows.layoutApartSpec.pre6 enc Try.prog Try.f4 Rows.layoutApartRow.domain false) (Rows.layoutApartSpec.post enc Try.prog Try.f4 false true false false) := by
  refine returnsInHanded_of_change (C := Try.checked) own started (by kernel_rfl) Try.func4
    (ChangeSpec.witness6 (enc := enc) (C := Try.checked) false ⟨#[], #[.agg #[.int .i64 0, .int .i64 0], .agg #[.int .i64 0, .int .i64 0], .int .i64 0, .int .i64 0, .int .i64 0], []⟩ 8 (by kernel_rfl) (by kernel_rfl) (by kernel_rfl) (by kernel_rfl)) ?_
  intro W base args ds gs before hval0 hW hcnd _
  have hval : ∀ (j : Nat) t v, Try.f4.params[j]? = some t → args[j]? = some v → Value.okWide Try.prog W .any base t v := hval0
  have hW' := hW
  obtain ⟨p, q, hA0, hV, rfl, hfz, hnd⟩ := hW
  have hA : DataW.TrodAll enc Try.prog W 0 (fun _ => true) true Try.f4.params.toList args.toList ds p := hA0
  rw [Try.params4] at hA hval
  obtain ⟨v0, _, d0, _, p0, _, e0, rfl, rfl, h0, hA⟩ := trodAll_cons hA
  obtain ⟨v1, _, d1, _, p1, _, rfl, rfl, rfl, h1, hA⟩ := trodAll_cons hA
  obtain ⟨v2, _, d2, _, p2, _, rfl, rfl, rfl, h2, hA⟩ := trodAll_cons hA
  obtain ⟨v3, _, d3, _, p3, _, rfl, rfl, rfl, h3, hA⟩ := trodAll_cons hA
  obtain ⟨v4, _, d4, _, p4, _, rfl, rfl, rfl, h4, hA⟩ := trodAll_cons hA
  obtain ⟨rfl, rfl, rfl⟩ := trodAll_nil hA
  have e0 : args = #[v0, v1, v2, v3, v4] := by cases args; simp_all
  subst e0
  obtain ⟨rfl, rfl⟩ := trodVars_none hV
  obtain ⟨o, s, rfl⟩ := open_ext (hval 0 23 v0 rfl rfl) h0
  obtain ⟨o', s', rfl⟩ := open_ext (hval 1 23 v1 rfl rfl) h1
  obtain ⟨f, rfl, rfl, rfl, _⟩ := open_int (k := .i64) (by kernel_rfl) (hval 2 3 v2 rfl rfl) h2
  obtain ⟨g, rfl, rfl, rfl, _⟩ := open_int (k := .i64) (by kernel_rfl) (hval 3 3 v3 rfl rfl) h3
  obtain ⟨x, rfl, rfl, rfl, _⟩ := open_int (k := .i64) (by kernel_rfl) (hval 4 3 v4 rfl rfl) h4
  refine (apart_pure G4 o s o' s' f g x W.heap.size (fun _ => False) (fun _ => none) W [_, _, _, _, _] (by
    simp only [VRs]
    exact ⟨_, _, rfl, vr_ext _ _ _, _, _, rfl, vr_ext _ _ _, _, _, rfl, vr_int _ _, _, _, rfl, vr_int _ _, _, _, rfl, vr_int _ _, rfl⟩) (Nat.le_refl _)).mono fun e W' ⟨c, he, hc, hk⟩ => ?_
  subst he
  rw [VR_bool hc]
  exact ⟨_, rfl, law_post (tb := 4) laid (by kernel_rfl) (by kernel_rfl) (by kernel_rfl) rfl rfl hW' hk⟩

theorem apart_holds : Rows.LayoutApartSaid :=
  OpenClaim.holds_of_wide 4 Try.f4 rfl rfl rfl rfl rfl rfl rfl ⟨rfl, rfl, rfl, rfl, rfl⟩ rfl rfl rfl rfl rfl (by kernel_rfl) Try.func4 (by kernel_rfl)
    (of_decide_eq_true (by kernel_rfl)) (by unfold Func.isWrapper; first | (rw [if_pos (by decide +kernel)]; kernel_rfl) | (rw [if_neg (by decide +kernel)]; exact ⟨rfl, rfl⟩))
    (fun os started H enc _ => apart_lifted os started H enc)
#print axioms apart_holds
end Go.Proofs.Ytggpbcgkjalepaa
