/- CarveAgain: for every extent, water and two lists of sizes the law returns true, and its arguments read as before. No condition. -/
import Derived.Test.YtkbfhpahjloidaaK7
import Derived.Test.YtkbfhpahjloidaaK15
set_option linter.unusedVariables false
set_option linter.unusedSimpArgs false
namespace Go.Proofs.Ytkbfhpahjloidaa
open Go Go.EV Go.ChangeShapes Go.WideShapes Go.ChangeAt Go.RowKit Go.Joins Go.Deep

/-- two rows, each of which is there -/
theorem rows_join {W : World} {n m : Nat} {f g : Nat → AV} {cb cb' : Cb} (hf : ∀ j, scalar (f j) = true) (hg : ∀ j, scalar (g j) = true)
    (H1 : HRel (fun b => if b = 0 then some cb else none) (roHeap [(n, f)]) W) (H2 : HRel (fun b => if b = 0 then some cb' else none) (roHeap [(m, g)]) W) :
    HRel (fun i => if i = 0 then some cb else if i = 1 then some cb' else none) (roHeap [(n, f), (m, g)]) W := by
  have hg1 : ∀ {n : Nat} {f : Nat → AV}, (roHeap [(n, f)]).bs.get 0 = some (.ro n f) := by
    intro n f
    show (Tr.set (ABlk.ro n f) .nil 0).get 0 = _
    rw [Tr.get_set, if_pos rfl]
  have hgi : ∀ i, (roHeap [(n, f), (m, g)]).bs.get i = if i = 0 then some (.ro n f) else if i = 1 then some (.ro m g) else none := by
    intro i
    show (Tr.set (ABlk.ro n f) (Tr.set (ABlk.ro m g) .nil 1) 0).get i = _
    rw [Tr.get_set, Tr.get_set]; rfl
  have hb : ∀ {n : Nat} {f : Nat → AV} {cb : Cb} (ρ' : Rho), (∀ j, scalar (f j) = true) → HRel (fun b => if b = 0 then some cb else none) (roHeap [(n, f)]) W → blkR ρ' W.heap[cb.blk]? cb (.ro n f) := by
    intro n f cb ρ' hs H
    obtain ⟨arr, elem, fz, k1, k2, k3, k4⟩ := H.blk 0 _ hg1 cb rfl
    exact ⟨arr, elem, fz, k1, k2, k3, fun j hj => by
      obtain ⟨c, r1, r2⟩ := k4 j hj
      exact ⟨c, r1, VR.scalar (hs j) r2⟩⟩
  refine ⟨?_, ?_, ?_, ?_, ?_, ?_, Nat.le_refl 8⟩
  · intro i o hi c hc
    rw [hgi] at hi
    split at hi
    · subst i
      cases hi
      simp only [if_true] at hc
      cases hc
      exact hb _ hf H1
    · split at hi
      · subst i
        cases hi
        simp only [if_true, if_neg (show ¬ (1 : Nat) = 0 by decide)] at hc
        cases hc
        exact hb _ hg H2
      · cases hi
  · intro i i' c c' g8 _ _ _ h2 _
    rw [if_neg (by omega), if_neg (by omega)] at h2
    cases h2
  · intro i hi
    have hi : 8 ≤ i := hi
    rw [if_neg (by omega), if_neg (by omega)]
  · intro i hi
    have hi : 8 ≤ i := hi
    rw [hgi, if_neg (by omega), if_neg (by omega)]
  · intro i c hc
    split at hc
    · cases hc; exact H1.bound 0 cb rfl
    · split at hc
      · cases hc; exact H2.bound 0 cb' rfl
      · cases hc
  · intro i o hi hw
    rw [hgi] at hi
    split at hi
    · cases hi; exact absurd rfl (hw _ _)
    · split at hi
      · cases hi; exact absurd rfl (hw _ _)
      · cases hi

theorem sl_ren {ρ ρ' : Rho} {b b' n k : Nat} {v : Value} (h : ρ b = ρ' b') (e : VR ρ (.sl b 0 n none k) v) : VR ρ' (.sl b' 0 n none k) v := by
  simp only [VR] at e ⊢
  obtain ⟨cb, q, h1, h2⟩ := e
  exact ⟨cb, q, by rw [← h]; exact h1, h2⟩

/-- a list that comes in: nothing, or a row -/
theorem open_list2 {H : Type} {enc : TypeId × Value → H} {W : World} {base : Nat} {held : Bool} {b0 : Nat} {v : Value} {d : DataW H} {p : List MemPlace} {t e : TypeId}
    (ht : Try.prog.underlying t = some (.slice e)) (he : Try.prog.underlying e = some (.int .i64)) (hc : Try.prog.cellsOf e = 1)
    (hv : Value.okWide Try.prog W .any b0 t v) (h : DataW.Trod enc Try.prog W base (fun _ => true) held t v d p) :
    (∃ k, ∀ ρ, VR ρ (lvA k) v) ∨
    ∃ (n : Nat) (c : Nat → Int) (cb : Cb), 0 < n ∧ HRel (fun b => if b = 0 then some cb else none) (roHeap [(n, row c)]) W ∧ VR (fun b => if b = 0 then some cb else none) (.sl 0 0 n none 1) v := by
  have slz : ∀ a k, v = .slice (some a) 0 k → ∃ k, ∀ ρ, VR ρ (lvA k) v := by
    intro a k e
    subst e
    refine ⟨true, fun ρ => ?_⟩
    show VR ρ (.slz false) _
    simp only [VR]
    exact ⟨a, k, rfl, fun h => by cases h⟩
  rcases open_list ht he hc hv h with rfl | ⟨a, k, e⟩ | ⟨n, c, cb, H1, hv⟩
  · exact .inl ⟨false, fun ρ => by show VR ρ .nilsl _; simp only [VR]⟩
  · exact .inl (slz a k e)
  · cases n with
    | zero =>
      simp only [VR] at hv
      obtain ⟨cb', k, _, e, _⟩ := hv
      exact .inl (slz _ k e)
    | succ n => exact .inr ⟨n + 1, c, cb, by omega, H1, hv⟩

set_option maxRecDepth 100000 in
theorem again_lifted (os : Os) (started : os.Started) (H : Type) (enc : TypeId × Value → H) :
    ReturnsInHanded {} Try.checked os 6 .any (Rows.carveAgainSpec.pre6 enc Try.prog Try.f6 Rows.carveAgainRow.domain false) (Rows.carveAgainSpec.post enc Try.prog Try.f6 false true false false) := by
  refine returnsInHanded_of_change (C := Try.checked) own started (by kernel_rfl) Try.func6
    (ChangeSpec.witness6 (enc := enc) (C := Try.checked) false ⟨#[], #[.agg #[.int .i64 0, .int .i64 0], .int .i64 0, .slice none 0 0, .slice none 0 0], []⟩ 8 (by kernel_rfl) (by kernel_rfl) (by kernel_rfl) (by kernel_rfl)) ?_
  intro W base args ds gs before hval0 hW hcnd _
  have hval : ∀ (j : Nat) t v, Try.f6.params[j]? = some t → args[j]? = some v → Value.okWide Try.prog W .any base t v := hval0
  have hW' := hW
  obtain ⟨p, q, hA0, hV, rfl, hfz, hnd⟩ := hW
  have hA : DataW.TrodAll enc Try.prog W 0 (fun _ => true) true Try.f6.params.toList args.toList ds p := hA0
  rw [Try.params6] at hA hval
  obtain ⟨v0, _, d0, _, p0, _, e0, rfl, rfl, h0, hA⟩ := trodAll_cons hA
  obtain ⟨v1, _, d1, _, p1, _, rfl, rfl, rfl, h1, hA⟩ := trodAll_cons hA
  obtain ⟨v2, _, d2, _, p2, _, rfl, rfl, rfl, h2, hA⟩ := trodAll_cons hA
  obtain ⟨v3, _, d3, _, p3, _, rfl, rfl, rfl, h3, hA⟩ := trodAll_cons hA
  obtain ⟨rfl, rfl, rfl⟩ := trodAll_nil hA
  have e0 : args = #[v0, v1, v2, v3] := by cases args; simp_all
  subst e0
  obtain ⟨rfl, rfl⟩ := trodVars_none hV
  obtain ⟨s, z, rfl⟩ := open_ext (hval 0 23 v0 rfl rfl) h0
  obtain ⟨w, rfl, rfl, rfl, _⟩ := open_int (k := .i64) (by kernel_rfl) (hval 1 3 v1 rfl rfl) h1
  have done : ∀ {ρ : Rho} {e : Ending} {W' : World}, (∃ c, e = .returned c ∧ VR ρ (.bool true) c ∧ Keep W.heap.size (fun _ => False) W W') → ∃ v, e = .returned v ∧ Rows.carveAgainSpec.post enc Try.prog Try.f6 false true false false W #[.agg #[.int .i64 s, .int .i64 z], .int .i64 w, v2, v3] v W' := by
    rintro ρ e W' ⟨c, he, hc, hk⟩
    subst he
    rw [VR_bool hc]
    exact ⟨_, rfl, law_post (tb := 4) laid (by kernel_rfl) (by kernel_rfl) (by kernel_rfl) rfl rfl hW' hk⟩
  have he : Try.prog.underlying 36 = some (.slice 3) := by kernel_rfl
  have hargs : ∀ {ρ : Rho} {l m : AV}, VR ρ l v2 → VR ρ m v3 → VRs ρ [ext s z, i w, l, m] [.agg #[.int .i64 s, .int .i64 z], .int .i64 w, v2, v3] := by
    intro ρ l m e1 e2
    simp only [VRs]
    exact ⟨_, _, rfl, vr_ext _ _ _, _, _, rfl, vr_int _ _, _, _, rfl, e1, _, _, rfl, e2, rfl⟩
  rcases open_list2 he (by kernel_rfl) (by kernel_rfl) (hval 2 36 v2 rfl rfl) h2 with ⟨k, l1⟩ | ⟨n, a, cb, n0, H1, l1⟩
  · rcases open_list2 he (by kernel_rfl) (by kernel_rfl) (hval 3 36 v3 rfl rfl) h3 with ⟨k', l2⟩ | ⟨m, b, cb', m0, H2, l2⟩
    · exact (againEE (s := s) (z := z) (w := w) k k' W.heap.size (fun _ => False) (fun _ => none) W [_, _, _, _] (HRel.empty W) (hargs (l1 _) (l2 _)) (Nat.le_refl _)).mono fun e W' h => done h
    · exact (againER (s := s) (z := z) (w := w) (b := b) k m0 W.heap.size (fun _ => False) _ W [_, _, _, _] H2 (hargs (l1 _) l2) (Nat.le_refl _)).mono fun e W' h => done h
  · rcases open_list2 he (by kernel_rfl) (by kernel_rfl) (hval 3 36 v3 rfl rfl) h3 with ⟨k', l2⟩ | ⟨m, b, cb', m0, H2, l2⟩
    · exact (againRE (s := s) (z := z) (w := w) (a := a) k' n0 W.heap.size (fun _ => False) _ W [_, _, _, _] H1 (hargs l1 (l2 _)) (Nat.le_refl _)).mono fun e W' h => done h
    · exact (againRR (s := s) (z := z) (w := w) (a := a) (b := b) n0 m0 W.heap.size (fun _ => False) _ W [_, _, _, _] (rows_join (fun _ => rfl) (fun _ => rfl) H1 H2) (hargs (sl_ren rfl l1) (sl_ren rfl l2)) (Nat.le_refl _)).mono fun e W' h => done h

theorem again_holds : Rows.CarveAgainSaid :=
  OpenClaim.holds_of_wide 6 Try.f6 rfl rfl rfl rfl rfl rfl rfl ⟨rfl, rfl, rfl, rfl, rfl⟩ rfl rfl rfl rfl rfl (by kernel_rfl) Try.func6 (by kernel_rfl)
    (of_decide_eq_true (by kernel_rfl)) (by unfold Func.isWrapper; first | (rw [if_pos (by decide +kernel)]; kernel_rfl) | (rw [if_neg (by decide +kernel)]; exact ⟨rfl, rfl⟩))
    (fun os started H enc _ => again_lifted os started H enc)
#print axioms again_holds
end Go.Proofs.Ytkbfhpahjloidaa
