/- Own text of this claim: an abstract machine over the given program form, and what follows from it. No condition. -/
import Derived.Test.YtkbfhpahjloidaaEvX
set_option linter.unusedVariables false
set_option linter.unusedSimpArgs false
namespace Go.EV

/-- one function more -/
noncomputable def addU (T : TSum) (f : FuncId) (F : List AV → AH → Option (AV × Option AH × Option Bool)) : TSum := fun g a h => match Nat.beq g f with
  | true => F a h
  | false => T g a h

theorem Good.addU {P : Program} {T : TSum} (G : Good P (cutT T)) {f : FuncId} {F : List AV → AH → Option (AV × Option AH × Option Bool)} (hb : hasBody P f = true)
    (h1 : ∀ a h v g, F a h = some (v, g, none) → CallOk P f a h v g) (h2 : ∀ a h v g, F a h = some (v, g, some true) → CallOk P f a h v g) : Good P (cutT (EV.addU T f F)) where
  sum g a h v k e := by
    unfold cutT EV.addU at e
    cases hg : Nat.beq g f with
    | true =>
      have hg := Nat.eq_of_beq_eq_true hg
      subst hg
      simp only [Nat.beq_refl] at e
      split at e
      · rename_i hF
        simp only [Option.some.injEq, Prod.mk.injEq] at e
        obtain ⟨rfl, rfl⟩ := e
        exact h1 _ _ _ _ hF
      · rename_i hF
        simp only [Option.some.injEq, Prod.mk.injEq] at e
        obtain ⟨rfl, rfl⟩ := e
        exact h2 _ _ _ _ hF
      · cases e
    | false =>
      simp only [hg] at e
      have e : cutT T g a h = some (v, k) := e
      exact G.sum _ _ _ _ _ e
  body g a h v k e := by
    unfold cutT EV.addU at e
    cases hg : Nat.beq g f with
    | true =>
      have hg := Nat.eq_of_beq_eq_true hg
      subst hg
      unfold hasBody at hb
      split at hb
      · rename_i fn hfn; exact ⟨fn, hfn, hb⟩
      · cases hb
    | false =>
      simp only [hg] at e
      have e : cutT T g a h = some (v, k) := e
      exact G.body _ _ _ _ _ e
  num := G.num
  mix := G.mix

/-- where a row stands -/
theorem Holds.row {ρ : Rho} {h : AH} {w : World} (H : HRel ρ h w) {b off n : Nat} {f : Nat → AV} (hh : Holds h b off n f) (hs : ∀ j, j < n → scalar (f j) = true) {cb : Cb} (hb : ρ b = some cb) (ρ' : Rho) :
    blkR ρ' w.heap[cb.blk]? ⟨cb.blk, cb.base + off, cb.tot⟩ (.ro n f) := by
  rcases hh with ⟨m, z, t, q1, q2, q3⟩ | ⟨m, f', q1, q2, q3⟩
  · obtain ⟨arr, elem, k1, k2, k3, k4⟩ := H.blk b _ q1 cb hb
    refine ⟨arr, elem, (0, 0), k1, k2, by simp only; omega, fun j hj => ?_⟩
    obtain ⟨c, r1, r2⟩ := k4 _ _ (q3 j hj)
    exact ⟨c, by simp only; rw [Nat.add_assoc]; exact r1, VR.scalar (hs j hj) r2⟩
  · obtain ⟨arr, elem, fz, k1, k2, k3, k4⟩ := H.blk b _ q1 cb hb
    refine ⟨arr, elem, fz, k1, k2, by simp only; omega, fun j hj => ?_⟩
    obtain ⟨c, r1, r2⟩ := k4 (off + j) (by omega)
    rw [q3 j hj] at r2
    exact ⟨c, by simp only; rw [Nat.add_assoc]; exact r1, VR.scalar (hs j hj) r2⟩

/-- two rows, out of blocks of memory -/
theorem two_rows {ρ : Rho} {h : AH} {w : World} (H : HRel ρ h w) {b off n : Nat} {f : Nat → AV} (hh : Holds h b off n f) (hs : ∀ j, j < n → scalar (f j) = true) {cb : Cb} (hb : ρ b = some cb)
    {b' off' n' : Nat} {f' : Nat → AV} (hh' : Holds h b' off' n' f') (hs' : ∀ j, j < n' → scalar (f' j) = true) {cb' : Cb} (hb' : ρ b' = some cb') :
    HRel (fun i => if i = 0 then some ⟨cb.blk, cb.base + off, cb.tot⟩ else if i = 1 then some ⟨cb'.blk, cb'.base + off', cb'.tot⟩ else none) (roHeap [(n, f), (n', f')]) w := by
  have hg : ∀ i, (roHeap [(n, f), (n', f')]).bs.get i = if i = 0 then some (.ro n f) else if i = 1 then some (.ro n' f') else none := by
    intro i
    show (Tr.set (ABlk.ro n f) (Tr.set (ABlk.ro n' f') .nil 1) 0).get i = _
    rw [Tr.get_set, Tr.get_set]; rfl
  refine ⟨?_, ?_, ?_, ?_, ?_, ?_, Nat.le_refl 8⟩
  · intro i o hi c hc
    rw [hg] at hi
    split at hi
    · subst i
      cases hi
      simp only [if_true] at hc
      cases hc
      exact hh.row H hs hb _
    · split at hi
      · subst i
        cases hi
        simp only [if_true, if_neg (show ¬ (1 : Nat) = 0 by decide)] at hc
        cases hc
        exact hh'.row H hs' hb' _
      · cases hi
  · intro i i' c c' g8 _ _ _ h2 _
    rw [if_neg (by omega), if_neg (by omega)] at h2
    cases h2
  · intro i hi
    have hi : 8 ≤ i := hi
    rw [if_neg (by omega), if_neg (by omega)]
  · intro i hi
    have hi : 8 ≤ i := hi
    rw [hg, if_neg (by omega), if_neg (by omega)]
  · intro i c hc
    split at hc
    · cases hc; exact H.bound b cb hb
    · split at hc
      · cases hc; exact H.bound b' cb' hb'
      · cases hc
  · intro i o hi hw
    rw [hg] at hi
    split at hi
    · cases hi; exact absurd rfl (hw _ _)
    · split at hi
      · cases hi; exact absurd rfl (hw _ _)
      · cases hi

/-- a contract of a call that only reads two rows -/
theorem read2_ok {P : Program} {f : FuncId} {b off n len : Nat} {cap : Option Nat} {esz : Nat} {fr : Nat → AV} {b' off' n' len' : Nat} {cap' : Option Nat} {esz' : Nat} {fr' : Nat → AV} {v : AV} {h : AH}
    (hC : ReadCall P f [(n, fr), (n', fr')] [.sl 0 0 len none esz, .sl 1 0 len' none esz'] v) (hh : Holds h b off n fr) (hs : ∀ j, j < n → scalar (fr j) = true) (hh' : Holds h b' off' n' fr') (hs' : ∀ j, j < n' → scalar (fr' j) = true) (hv : scalar v = true) :
    CallOk P f [.sl b off len cap esz, .sl b' off' len' cap' esz'] h v none := by
  refine ⟨Nat.le_refl _, fun N own ρ w cargs H hargs O hN => ?_⟩
  simp only [VRs] at hargs
  obtain ⟨cl, _, rfl, hsl, cl', _, rfl, hsl', rfl⟩ := hargs
  simp only [VR] at hsl hsl'
  obtain ⟨cb, kk, hbb, rfl, s1, s2, s3⟩ := hsl
  obtain ⟨cb', kk', hbb', rfl, t1, t2, t3⟩ := hsl'
  have H1 := two_rows H hh hs hbb hh' hs' hbb'
  refine (hC w.heap.size (fun _ => False) _ w _ H1 ?_ (Nat.le_refl _)).mono ?_
  · simp only [VRs, VR]
    exact ⟨_, _, rfl, ⟨⟨cb.blk, cb.base + off, cb.tot⟩, kk, by simp, rfl, s1, by simpa using s2, by simp⟩, _, _, rfl, ⟨⟨cb'.blk, cb'.base + off', cb'.tot⟩, kk', by simp, rfl, t1, by simpa using t2, by simp⟩, rfl⟩
  · rintro e w' ⟨c, rfl, h1, h2⟩
    exact ⟨ρ, c, rfl, VR.scalar hv h1, H.kept h2, h2.all N own hN, O, Ext2.refl _ _⟩
end Go.EV
namespace Go.EV
/-- the last piece of a run, its memory dropped -/
noncomputable def lastV (P : Program) (T : TSum) (k : Nat) (m : AM) : Option (AV × Log) :=
  match runX P T k m with
  | .done v _ l => some (v, l)
  | _ => none
/-- a call that reads rows: one run, with contracts -/
theorem read_of_run {P : Program} {T : TSum} (G : Good P (cutT T)) {f : FuncId} {args : List AV} {rows : List (Nat × (Nat → AV))} {k : Nat} {hs : HB} {v : AV} {r : List (Bool × Bool × Bool)}
    (hr : oCase none (fun m => lastV P T k (withH hs m)) (startA P f args (roHeap rows) noHint) = some (v, logOf r [])) (hl : ∀ e ∈ r, e.1 = true → e.2.1 = e.2.2) (hv : scalar v = true) : ReadCall P f rows args v := by
  intro N own ρ w cargs H hc hN
  have O : Owned w.heap.size (fun _ => False) ρ := by
    intro b cb h8 hb
    have := H.fresh b h8
    rw [this] at hb; cases hb
  unfold oCase at hr
  cases hst : startA P f args (roHeap rows) noHint with
  | none => rw [hst] at hr; cases hr
  | some m =>
    rw [hst] at hr
    have hr : lastV P T k (withH hs m) = some (v, logOf r []) := hr
    intro cs
    unfold startA at hst
    split at hst
    · rename_i a ha
      simp at hst; subst hst
      obtain ⟨F, hfn, _⟩ := enter_rel ha hc
      have M : MR P w.heap.size (fun _ => False) w cs f ρ (roHeap rows).next ⟨a, [], roHeap rows, hs, []⟩ (Frame.enter P f cargs.toArray .normal) cs w :=
        ⟨⟨ρ, [], (roHeap rows).next, Nat.le_refl _, H, .inl F, ⟨rfl, Nat.le_refl _⟩, rfl, O, Ext2.refl _ ρ⟩, topok_plain F _, Keep.refl _ _ w, Nat.le_refl _, hfn⟩
      unfold lastV at hr
      split at hr
      · rename_i v' h' l' hrun
        simp only [Option.some.injEq, Prod.mk.injEq] at hr
        obtain ⟨rfl, rfl⟩ := hr
        have R := runX_reach (P := P) (U := T) k ⟨a, [], roHeap rows, hs, []⟩
        have := reach_goes G.sum G.body G.num G.mix R M
        have hrun' : runX P T k ⟨a, [], roHeap rows, hs, []⟩ = .done v' h' (logOf r []) := hrun
        rw [hrun'] at this
        obtain ⟨ρ', c, fr', w', s, hlv, hf, h1, h2, h3, h4, h5⟩ := this (logOf_held hl)
        exact ⟨.returned c, w', fr', ⟨c, rfl, VR.scalar hv h1, h3⟩, s, hf, hlv⟩
      · cases hr
    · cases hst
end Go.EV
