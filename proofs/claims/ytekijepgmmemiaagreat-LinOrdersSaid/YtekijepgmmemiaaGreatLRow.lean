/- LinOrders: for every history and list of numbers the law returns true, and its arguments read as before. No condition. -/
import Derived.Test.YtekijepgmmemiaaGreatML
import Derived.Test.YtekijepgmmemiaaGreatEvO
import Derived.Test.YtekijepgmmemiaaGreatEvR
import Derived.ChangeSlices
import Derived.Test.YtekijepgmmemiaaGreatRows
import Derived.Lib.SmallJoins
set_option linter.unusedVariables false
set_option linter.unusedSimpArgs false
namespace Go.Proofs.YtekijepgmmemiaaGreat
open Go Go.EV Go.Gar Go.ChangeShapes Go.WideShapes Go.ChangeAt Go.RowKit Go.Joins Go.Deep

theorem own : ownKnob Tryz.prog.godebug = none := by kernel_rfl
theorem laid : laidOutB Tryz.prog = true := by kernel_rfl
theorem like_ls_deep {n e : Nat} {f f' : Nat → List AV} {full full' : Bool} (hf : ∀ k, k < n → ∀ ρ cs, VRs ρ (f k) cs → VRs ρ (f' k) cs) (hfull : full' = true → full = true) : Like (.ls n f e full) (.ls n f' e full') := by
  intro ρ c h
  simp only [VR] at h ⊢
  rcases h with ⟨h0, h⟩ | ⟨h0, blk, off, k, arr, h1, h2, h3, h4, h5, h6⟩
  · refine .inl ⟨h0, ?_⟩
    rcases h with h | ⟨a, k, h, hk⟩
    · exact .inl h
    · exact .inr ⟨a, k, h, fun h' => hk (hfull h')⟩
  · exact .inr ⟨h0, blk, off, k, arr, h1, h2, fun h' => h3 (hfull h'), h4, h5, fun j hj => ⟨hf j hj _ _ (h6 j hj).1, (h6 j hj).2⟩⟩
abbrev shCall : List Sh := [.int .i64, .int .u64, .int .u64, .int .i64, .int .i64, .int .i64, .int .i64, .int .i64]
abbrev shRep : List Sh := [.int .i64, .int .i64, .int .i64, .bool]
abbrev shSpan : List Sh := [.int .i64, .int .i64, .int .u64, .int .u64, .int .i64, .int .i64, .int .i64, .int .i64, .int .i64, .int .i64, .int .i64, .int .i64, .int .i64, .int .i64, .bool]
abbrev shDone : List Sh := [.int .i64, .int .i64, .int .i64, .int .i64, .bool]
abbrev shEvent : List Sh := [.int .i64, .int .i64, .int .i64, .int .u64, .int .u64, .int .i64, .int .i64, .int .i64, .int .i64, .int .i64, .int .i64, .ls shDone]
abbrev shHist : List Sh := [.ls shSpan, .ls shEvent]
theorem sh_span {c : List AV} (h : HasShs shSpan c) : c = eSpan (dSpan c) := by
  simp only [HasShs, HasSh] at h
  obtain ⟨_, _, rfl, ⟨x1, rfl, _⟩, _, _, rfl, ⟨x2, rfl, _⟩, _, _, rfl, ⟨x3, rfl, _⟩, _, _, rfl, ⟨x4, rfl, _⟩, _, _, rfl, ⟨x5, rfl, _⟩, _, _, rfl, ⟨x6, rfl, _⟩, _, _, rfl, ⟨x7, rfl, _⟩, _, _, rfl, ⟨x8, rfl, _⟩, _, _, rfl, ⟨x9, rfl, _⟩, _, _, rfl, ⟨x10, rfl, _⟩, _, _, rfl, ⟨x11, rfl, _⟩, _, _, rfl, ⟨x12, rfl, _⟩, _, _, rfl, ⟨x13, rfl, _⟩, _, _, rfl, ⟨x14, rfl, _⟩, _, _, rfl, ⟨x15, rfl⟩, rfl⟩ := h
  rfl
theorem sh_done {c : List AV} (h : HasShs shDone c) : c = eDone (dDone c) := by
  simp only [HasShs, HasSh] at h
  obtain ⟨_, _, rfl, ⟨x1, rfl, _⟩, _, _, rfl, ⟨x2, rfl, _⟩, _, _, rfl, ⟨x3, rfl, _⟩, _, _, rfl, ⟨x4, rfl, _⟩, _, _, rfl, ⟨x5, rfl⟩, rfl⟩ := h
  rfl
theorem sh_event {c : List AV} (h : HasShs shEvent c) : ∀ ρ cs, VRs ρ c cs → VRs ρ (eEvent (dEvent c)) cs := by
  simp only [HasShs, HasSh] at h
  obtain ⟨_, _, rfl, ⟨x1, rfl, _⟩, _, _, rfl, ⟨x2, rfl, _⟩, _, _, rfl, ⟨x3, rfl, _⟩, _, _, rfl, ⟨x4, rfl, _⟩, _, _, rfl, ⟨x5, rfl, _⟩, _, _, rfl, ⟨x6, rfl, _⟩, _, _, rfl, ⟨x7, rfl, _⟩, _, _, rfl, ⟨x8, rfl, _⟩, _, _, rfl, ⟨x9, rfl, _⟩, _, _, rfl, ⟨x10, rfl, _⟩, _, _, rfl, ⟨x11, rfl, _⟩, _, _, rfl, ⟨n, f, rfl, _, hf⟩, rfl⟩ := h
  refine likes_cons Like.rfl (likes_cons Like.rfl (likes_cons Like.rfl (likes_cons Like.rfl (likes_cons Like.rfl (likes_cons Like.rfl (likes_cons Like.rfl (likes_cons Like.rfl (likes_cons Like.rfl (likes_cons Like.rfl (likes_cons Like.rfl (likes_cons ?_ likes_nil)))))))))))
  exact Like.ls (fun k hk => sh_done (by simpa only [HasShs, HasSh] using hf k hk)) (fun h => h)
theorem sh_int {c : List AV} (h : HasShs [.int .i64] c) : c = [Gar.i (dI c)] := by
  simp only [HasShs, HasSh] at h
  obtain ⟨_, _, rfl, ⟨n, rfl, _⟩, rfl⟩ := h
  rfl

set_option maxRecDepth 100000 in
theorem orders_lifted (os : Os) (started : os.Started) (H : Type) (enc : TypeId × Value → H) :
    ReturnsInHanded {} Tryz.checked os 3 .any (Rows.linOrdersSpec.pre6 enc Tryz.prog Tryz.f3 Rows.linOrdersRow.domain false) (Rows.linOrdersSpec.post enc Tryz.prog Tryz.f3 false true false false) := by
  refine returnsInHanded_of_change (C := Tryz.checked) own started (by kernel_rfl) Tryz.func3
    (ChangeSpec.witness6 (enc := enc) (C := Tryz.checked) false ⟨#[], #[.agg #[.slice none 0 0, .slice none 0 0], .slice none 0 0], []⟩ 8 (by kernel_rfl) (by kernel_rfl) (by kernel_rfl) (by kernel_rfl)) ?_
  intro W base args ds gs before hval0 hW hcnd _
  have hval : ∀ (j : Nat) t v, Tryz.f3.params[j]? = some t → args[j]? = some v → Value.okWide Tryz.prog W .any base t v := hval0
  have hW' := hW
  obtain ⟨p, q, hA0, hV, rfl, hfz, hnd⟩ := hW
  have hA : DataW.TrodAll enc Tryz.prog W 0 (fun _ => true) true Tryz.f3.params.toList args.toList ds p := hA0
  rw [Tryz.params3] at hA hval
  obtain ⟨v0, _, d0, _, p0, _, e0, rfl, rfl, h0, hA⟩ := trodAll_cons hA
  obtain ⟨v1, _, d1, _, p1, _, rfl, rfl, rfl, h1, hA⟩ := trodAll_cons hA
  obtain ⟨rfl, rfl, rfl⟩ := trodAll_nil hA
  have e0 : args = #[v0, v1] := by cases args; simp_all
  subst e0
  obtain ⟨rfl, rfl⟩ := trodVars_none hV
  obtain ⟨a0, x0, s0⟩ := open_struct_arg (f := 9) (c := shHist) Tryz.underlying25 (by kernel_rfl) (hval 0 25 v0 rfl rfl) h0
  obtain ⟨c, l, x1, _, s1⟩ := open_slice_arg (f := 5) (e := 3) (c := [.int .i64]) (by kernel_rfl) (by kernel_rfl) (hval 1 26 v1 rfl rfl) h1
  simp only [shHist, HasShs, HasSh] at s0
  obtain ⟨_, _, rfl, ⟨n, f, rfl, _, hf⟩, _, _, rfl, ⟨m, g, rfl, _, hg⟩, rfl⟩ := s0
  have cc := FnCall_args (likes_cons (Like.agg (likes_cons (Like.ls (fun k hk => sh_span (by simpa only [HasShs, HasSh] using hf k hk)) (fun h => h)) (likes_cons (like_ls_deep (fun k hk => sh_event (by simpa only [HasShs, HasSh] using hg k hk)) (fun h => h)) likes_nil))) (likes_ls (vs := []) (fun k hk => sh_int (s1 k hk)) (fun h => h)))
    (c3 c14 (n := n) (m := m) (c := c) (S := fun k => dSpan (f k)) (E := fun k => dEvent (g k)) (l := fun k => dI (l k)) (fl := false) (fm := false) (fc := false))
  refine (cc (snapW W) W [_, _] (snapW_ok W) (by
    simp only [VRs]
    exact ⟨_, _, rfl, x0, _, _, rfl, x1, rfl⟩)).mono ?_
  rintro e W' ⟨fz', c, rfl, hc, _, _, _, hk⟩
  rw [VR_bool hc]
  exact ⟨_, rfl, law_post (tb := 4) laid (by kernel_rfl) (by kernel_rfl) (by kernel_rfl) rfl rfl hW' hk⟩

end Go.Proofs.YtekijepgmmemiaaGreat
