/- CarveGives: for every extent, water, size and two lists the law returns true, and its arguments read as before. No condition. -/
import Derived.Test.YtkbfhpahjloidaaG10
import Derived.Test.YtkbfhpahjloidaaEvO
import Derived.Test.YtkbfhpahjloidaaEvR
import Derived.ChangeSlices
import Derived.Test.YtkbfhpahjloidaaRows
import Derived.Lib.SmallJoins
set_option linter.unusedVariables false
set_option linter.unusedSimpArgs false
namespace Go.Proofs.Ytkbfhpahjloidaa
open Go Go.EV Go.ChangeShapes Go.WideShapes Go.ChangeAt Go.RowKit Go.Joins Go.Deep

theorem own : ownKnob Try.prog.godebug = none := by kernel_rfl
theorem laid : laidOutB Try.prog = true := by kernel_rfl
theorem sh_i {c : List AV} (h : HasShs [.int .i64] c) : c = [i (gi c)] := by
  simp only [HasShs, HasSh] at h
  obtain ⟨_, _, rfl, ⟨n, rfl, _⟩, rfl⟩ := h
  rfl
theorem sh_ii {c : List AV} (h : HasShs [.int .i64, .int .i64] c) : c = [i (gi1 c), i (gi2 c)] := by
  simp only [HasShs, HasSh] at h
  obtain ⟨_, _, rfl, ⟨n, rfl, _⟩, _, _, rfl, ⟨m, rfl, _⟩, rfl⟩ := h
  rfl

set_option maxRecDepth 100000 in
theorem gives_lifted (os : Os) (started : os.Started) (H : Type) (enc : TypeId × Value → H) :
    ReturnsInHanded {} Try.checked os 4 .any (Rows.carveGivesSpec.pre6 enc Try.prog Try.f4 Rows.carveGivesRow.domain false) (Rows.carveGivesSpec.post enc Try.prog Try.f4 false true false false) := by
  refine returnsInHanded_of_change (C := Try.checked) own started (by kernel_rfl) Try.func4
    (ChangeSpec.witness6 (enc := enc) (C := Try.checked) false ⟨#[], #[.agg #[.int .i64 0, .int .i64 0], .int .i64 0, .int .i64 0, .slice none 0 0, .slice none 0 0], []⟩ 8 (by kernel_rfl) (by kernel_rfl) (by kernel_rfl) (by kernel_rfl)) ?_
  intro W base args ds gs before hval0 hW hcnd _
  have hval : ∀ (j : Nat) t v, Try.f4.params[j]? = some t → args[j]? = some v → Value.okWide Try.prog W .any base t v := hval0
  have hW' := hW
  obtain ⟨p, q, hA0, hV, rfl, hfz, hnd⟩ := hW
  have hA : DataW.TrodAll enc Try.prog W 0 (fun _ => true) true Try.f4.params.toList args.toList ds p := hA0
  rw [Try.params4] at hA hval
  obtain ⟨v0, _, d0, _, p0, _, e0, rfl, rfl, h0, hA⟩ := trodAll_cons hA
  obtain ⟨v1, _, d1, _, p1, _, rfl, rfl, rfl, h1, hA⟩ := trodAll_cons hA
  obtain ⟨v2, _, d2, _, p2, _, rfl, rfl, rfl, h2, hA⟩ := trodAll_cons hA
  obtain ⟨v3, _, d3, _, p3, _, rfl, rfl, rfl, h3, hA⟩ := trodAll_cons hA
  obtain ⟨v4, _, d4, _, p4, _, rfl, rfl, rfl, h4, hA⟩ := trodAll_cons hA
  obtain ⟨rfl, rfl, rfl⟩ := trodAll_nil hA
  have e0 : args = #[v0, v1, v2, v3, v4] := by cases args; simp_all
  subst e0
  obtain ⟨rfl, rfl⟩ := trodVars_none hV
  obtain ⟨a0, x0, s0⟩ := open_struct_arg (f := 3) (c := [.int .i64, .int .i64]) Try.underlying23 (by kernel_rfl) (hval 0 23 v0 rfl rfl) h0
  obtain ⟨w, rfl, _⟩ := open_int_arg (k := .i64) (by kernel_rfl) (hval 1 3 v1 rfl rfl) h1
  obtain ⟨k, rfl, _⟩ := open_int_arg (k := .i64) (by kernel_rfl) (hval 2 3 v2 rfl rfl) h2
  obtain ⟨n, f, x3, _, s3⟩ := open_slice_arg (f := 3) (e := 3) (c := [.int .i64]) (by kernel_rfl) (by kernel_rfl) (hval 3 36 v3 rfl rfl) h3
  obtain ⟨m, g, x4, _, s4⟩ := open_slice_arg (f := 3) (e := 23) (c := [.int .i64, .int .i64]) (by kernel_rfl) (by kernel_rfl) (hval 4 37 v4 rfl rfl) h4
  rw [sh_ii s0] at x0
  have c := FnCall_args (likes_cons Like.rfl (likes_cons Like.rfl (likes_cons Like.rfl (likes_cons (Like.ls (fun j hj => sh_i (s3 j hj)) (fun h => h)) (likes_ls (vs := []) (fun j hj => sh_ii (s4 j hj)) (fun h => h)))))) (c4 (gi1 a0) (gi2 a0) w k n m (fun j => gi (f j)) (fun j => gi1 (g j)) (fun j => gi2 (g j)) false false)
  refine (c (snapW W) W [_, _, _, _, _] (snapW_ok W) (by
    simp only [VRs]
    exact ⟨_, _, rfl, x0, _, _, rfl, by simp only [VR], _, _, rfl, by simp only [VR], _, _, rfl, x3, _, _, rfl, x4, rfl⟩)).mono ?_
  rintro e W' ⟨fz', c, rfl, hc, _, _, _, hk⟩
  rw [VR_bool hc]
  exact ⟨_, rfl, law_post (tb := 4) laid (by kernel_rfl) (by kernel_rfl) (by kernel_rfl) rfl rfl hW' hk⟩

theorem gives_holds : Rows.CarveGivesSaid :=
  OpenClaim.holds_of_wide 4 Try.f4 rfl rfl rfl rfl rfl rfl rfl ⟨rfl, rfl, rfl, rfl, rfl⟩ rfl rfl rfl rfl rfl (by kernel_rfl) Try.func4 (by kernel_rfl)
    (of_decide_eq_true (by kernel_rfl)) (by unfold Func.isWrapper; first | (rw [if_pos (by decide +kernel)]; kernel_rfl) | (rw [if_neg (by decide +kernel)]; exact ⟨rfl, rfl⟩))
    (fun os started H enc _ => gives_lifted os started H enc)
#print axioms gives_holds
end Go.Proofs.Ytkbfhpahjloidaa
