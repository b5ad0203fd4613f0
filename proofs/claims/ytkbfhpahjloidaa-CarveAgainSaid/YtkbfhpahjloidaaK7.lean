/- Own text of this claim: an abstract machine over the given program form, and what follows from it. No condition. -/
import Derived.Test.YtkbfhpahjloidaaK6
import Derived.Test.YtkbfhpahjloidaaEvR
import Derived.ChangeSlices
import Derived.Test.YtkbfhpahjloidaaRows
import Derived.Lib.SmallJoins
set_option linter.unusedVariables false
set_option linter.unusedSimpArgs false
namespace Go.Proofs.Ytkbfhpahjloidaa
open Go Go.EV Go.ChangeShapes Go.WideShapes Go.ChangeAt Go.RowKit Go.Joins Go.Deep

theorem slz_run (s z w : Int) : runV Try.prog S3 5 [ext s z, i w, .slz false] (tell 5 []) 6 = some (.bool true, logOf [] []) := by
  kernel_rfl
theorem nil_pure (s z w : Int) : PureCall Try.prog 5 [ext s z, i w, .nilsl] (.bool true) := pure_of_runV G3 (nil_run s z w) (by simp) rfl rfl
theorem slz_pure (s z w : Int) : PureCall Try.prog 5 [ext s z, i w, .slz false] (.bool true) := pure_of_runV G3 (slz_run s z w) (by simp) rfl rfl

theorem own : ownKnob Try.prog.godebug = none := by kernel_rfl
theorem laid : laidOutB Try.prog = true := by kernel_rfl
theorem under23 : ∃ f0 f1, Try.prog.underlying 23 = some (.struct #[f0, f1]) ∧ oneCellFields Try.prog #[f0, f1] = true ∧ Try.prog.underlying f0.type = some (.int .i64) ∧ Try.prog.underlying f1.type = some (.int .i64) :=
  ⟨_, _, Try.underlying23, by kernel_rfl, by kernel_rfl, by kernel_rfl⟩

set_option maxRecDepth 100000 in
/-- an extent that comes in: two numbers -/
theorem open_ext {H : Type} {enc : TypeId × Value → H} {W : World} {base : Nat} {sp : Nat → Bool} {held : Bool} {r : Reach} {b0 : Nat} {v : Value} {d : DataW H} {p : List MemPlace}
    (hv : Value.okWide Try.prog W r b0 23 v) (h : DataW.Trod enc Try.prog W base sp held 23 v d p) : ∃ s z, v = .agg #[.int .i64 s, .int .i64 z] := by
  obtain ⟨f0, f1, h1, h2, h3, h4⟩ := under23
  obtain ⟨v0, v1, y0, y1, m, rfl, rfl, rfl, hy0, hy1⟩ := open_agg2 h1 h2 (by kernel_rfl) hv h
  obtain ⟨s, hs, _⟩ := DataW.trod_int h3 hy0
  obtain ⟨z, hz, _⟩ := DataW.trod_int h4 hy1
  simp only [List.cons.injEq, and_true] at hs hz
  exact ⟨s, z, by rw [hs, hz]⟩

theorem vr_ext (ρ : Rho) (s z : Int) : VR ρ (ext s z) (.agg #[.int .i64 s, .int .i64 z]) := by
  simp only [VR, VRs]
  exact ⟨_, rfl, _, _, rfl, rfl, _, _, rfl, rfl, rfl⟩
theorem vr_int (ρ : Rho) (n : Int) : VR ρ (i n) (.int .i64 n) := by simp only [VR]

set_option maxRecDepth 100000 in
/-- a list of numbers that comes in: none, an empty one, or a row of cells that are read -/
theorem open_list {H : Type} {enc : TypeId × Value → H} {W : World} {base : Nat} {held : Bool} {b0 : Nat} {v : Value} {d : DataW H} {p : List MemPlace} {t e : TypeId}
    (ht : Try.prog.underlying t = some (.slice e)) (he : Try.prog.underlying e = some (.int .i64)) (hc : Try.prog.cellsOf e = 1)
    (hv : Value.okWide Try.prog W .any b0 t v) (h : DataW.Trod enc Try.prog W base (fun _ => true) held t v d p) :
    (v = .slice none 0 0) ∨ (∃ a k, v = .slice (some a) 0 k) ∨
    ∃ (n : Nat) (c : Nat → Int) (cb : Cb), HRel (fun b => if b = 0 then some cb else none) (roHeap [(n, row c)]) W ∧ VR (fun b => if b = 0 then some cb else none) (.sl 0 0 n none 1) v := by
  have hcell : Cell.ok Try.prog W .any b0 t v := by
    unfold Value.okWide at hv
    rw [ht] at hv
    simp only at hv
    unfold Cell.okWide at hv
    rw [ht] at hv
    exact hv
  obtain ⟨fuel, hf⟩ := h
  have hvc : v.cells.toList = [v] := by
    unfold Cell.ok at hcell
    rw [ht] at hcell
    cases v <;> first | rfl | (simp only at hcell)
  rw [hvc] at hf
  rcases open_ints ht he hc hf with ⟨hx, _⟩ | ⟨a, len, cap, zs, hx, _, hl, hm, hz, _, hcl, _⟩
  · simp only [List.cons.injEq, and_true] at hx
    exact .inl hx
  · simp only [List.cons.injEq, and_true] at hx
    subst hx
    right
    by_cases h0 : len = 0
    · subst h0
      exact .inl ⟨a, cap, rfl⟩
    · right
      unfold Cell.ok at hcell
      rw [ht] at hcell
      simp only at hcell
      obtain ⟨_, _, _, hspot, rw', cells, hsh, _⟩ := hcell
      obtain ⟨blk, off, spot⟩ := a
      simp only at hspot hsh
      subst hspot
      have hzl : zs.length = cap := by rw [hz]; simp
      unfold World.shape? at hsh
      split at hsh
      · rename_i arr elem fz hb
        have hget : ∀ j, j < cap → arr[off + j]? = some (.int .i64 (zs.getD j 0)) := by
          intro j hj
          have := hcl j (by omega)
          rw [add_plain] at this
          unfold World.cell? at this
          simp only [hb] at this
          simpa using this
        have hsz : off + cap ≤ arr.size := by
          have := hget (cap - 1) (by omega)
          have := (Array.getElem?_eq_some_iff.mp this).1
          omega
        have hbl : blk < W.heap.size := (Array.getElem?_eq_some_iff.mp hb).1
        refine ⟨len, fun j => zs.getD j 0, ⟨blk, off, arr.size⟩, ?_, ?_⟩
        · have hg : ∀ b, (roHeap [(len, row fun j => zs.getD j 0)]).bs.get b = if b = 0 then some (.ro len (row fun j => zs.getD j 0)) else none := by
            intro b
            show (Tr.set (ABlk.ro len (row fun j => zs.getD j 0)) .nil 0).get b = _
            rw [Tr.get_set]
            rfl
          refine ⟨?_, ?_, ?_, ?_, ?_, ?_, Nat.le_refl 8⟩
          · intro b o hb2 cb hcb
            rw [hg] at hb2
            split at hb2
            · subst b
              cases hb2
              simp only [if_true] at hcb
              cases hcb
              refine ⟨arr, elem, fz, hb, rfl, by simp only; omega, fun j hj => ⟨_, hget j (by omega), ?_⟩⟩
              simp only [row, VR]
            · cases hb2
          · intro b b' cb cb' g8 _ _ _ hb' _
            rw [if_neg (by omega)] at hb'
            cases hb'
          · intro b hb8
            have hb8 : 8 ≤ b := hb8
            rw [if_neg (by omega)]
          · intro b hb8
            have hb8 : 8 ≤ b := hb8
            rw [hg, if_neg (by omega)]
          · intro b cb hcb
            split at hcb
            · cases hcb; exact hbl
            · cases hcb
          · intro b o hb2 hw
            rw [hg] at hb2
            split at hb2
            · cases hb2; exact absurd rfl (hw _ _)
            · cases hb2
        · simp only [VR]
          exact ⟨⟨blk, off, arr.size⟩, cap, by simp, by simp, hl, by simp only; omega, by simp⟩
      · cases hsh
end Go.Proofs.Ytkbfhpahjloidaa
